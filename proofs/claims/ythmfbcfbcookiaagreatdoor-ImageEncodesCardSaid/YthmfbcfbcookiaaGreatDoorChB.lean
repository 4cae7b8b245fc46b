/-
  The program's Check: the walk. Conditions: lengths within 10 ^ 9.
-/
import Derived.Test.YthmfbcfbcookiaaGreatDoorChA
import Derived.Deep.LoopGhost
import Derived.WalkMore
namespace Go.Proofs.YthmfbcfbcookiaaGreatDoor
open Go.RowKit
theorem head_iff (s : St) : headB s = true ↔ (2 ≤ s.players.length ∧ s.players.length ≤ 4 ∧ 1 ≤ s.cards.length ∧ s.cards.length ≤ 256 ∧ s.zones.length = 4 * s.players.length) := by
  simp only [headB, Bool.and_eq_true, decide_eq_true_eq, and_assoc]
theorem ne_bool {a b : Int} (h : a ≠ b) : (a != b) = true := by rw [bne_iff_ne]; exact h
theorem eq_bool {a b : Int} (h : a = b) : (a != b) = false := by rw [h]; simp
/-- Which numbers below 256 stand in a list. -/
def stoodV (p : List Int) : Array Value := full 256 (fun i => .bool (decide ((i : Int) ∈ p)))
theorem zero_stood (w : World) : Sem.run Tryz.prog (zeroValue 108) w = .ok (.agg (stoodV [])) w := by kernel_rfl
theorem take_all {α : Type} {q : α → Bool} {l : List α} {i : Nat} (h : ∀ a ∈ l.take i, q a = true) (hi : i < l.length) (hq : q l[i] = true) : ∀ a ∈ l.take (i + 1), q a = true := fun a ha => by
  rw [List.take_succ_eq_append_getElem hi] at ha
  rcases List.mem_append.1 ha with h1 | h1
  · exact h a h1
  · rw [List.mem_singleton.1 h1]; exact hq
theorem take_split {α : Type} {l : List α} {i : Nat} (hi : i < l.length) : l = l.take i ++ l[i] :: l.drop (i + 1) := by
  rw [← List.drop_eq_getElem_cons hi, List.take_append_drop]
theorem stoodV_get (p : List Int) (i : Nat) (h : i < 256) : (stoodV p)[i]? = some (.bool (decide ((i : Int) ∈ p))) := full_get 256 _ i h
theorem stoodV_put (p : List Int) (i : Nat) : (stoodV p).setIfInBounds i (.bool true) = stoodV (p ++ [(i : Int)]) := by
  unfold stoodV
  rw [full_put]
  refine full_congr fun k _ => ?_
  by_cases e : k = i
  · subst e; simp
  · rw [if_neg e]
    have : ((k : Int) ∈ p ++ [(i : Int)]) = ((k : Int) ∈ p) := by
      apply propext
      simp only [List.mem_append, List.mem_singleton]
      exact ⟨fun h => h.resolve_right (by omega), .inl⟩
    simp only [this]
/-- The entries ahead of a place. -/
def ahead (zs : List (List Int)) (i : Nat) (r : List Int) (j : Nat) : List Int := (zs.take i).flatten ++ r.take j
theorem ahead_zero (zs : List (List Int)) (i : Nat) (r : List Int) : ahead zs i r 0 = (zs.take i).flatten := by simp [ahead]
theorem ahead_next (zs : List (List Int)) (i : Nat) (r : List Int) (j : Nat) (h : j < r.length) : ahead zs i r (j + 1) = ahead zs i r j ++ [r[j]] := by
  rw [ahead, List.take_succ_eq_append_getElem h, ahead, List.append_assoc]
theorem ahead_full (zs : List (List Int)) (i : Nat) (r : List Int) (h : zs[i]? = some r) : ahead zs i r r.length = (zs.take (i + 1)).flatten := by
  rw [ahead, List.take_length, flat_take_next zs i r h]
theorem ahead_split (zs : List (List Int)) (i : Nat) (r : List Int) (j : Nat) (h : zs[i]? = some r) (hj : j < r.length) : ∃ t, zs.flatten = ahead zs i r j ++ r[j] :: t := by
  have hi := (List.getElem?_eq_some_iff.1 h).1
  have hr := (List.getElem?_eq_some_iff.1 h).2
  refine ⟨r.drop (j + 1) ++ (zs.drop (i + 1)).flatten, ?_⟩
  conv => lhs; rw [take_split hi, hr]
  rw [List.flatten_append, List.flatten_cons, ahead, List.append_assoc]
  congr 1
  rw [← List.cons_append, ← List.append_assoc, ← take_split hj]
theorem check_short {s : St} (h : headB s = true) (hpl : ∀ a ∈ s.players, plB a = true) (hcd : ∀ a ∈ s.cards, cardB s.players.length a = true) (hg : AllGood s.cards.length s.zones.flatten) (hne : s.zones.flatten.length ≠ s.cards.length) :
    checkP s = (10, 1 + (s.players.length : Int) + (s.cards.length : Int) + (s.zones.flatten.length : Int)) := by
  rw [check_rest h hpl hcd hg, decide_eq_false hne]
  simp [firstF, answer]
/-- What the last four things tell. -/
def tailP (b0 b1 b2 b3 : Bool) (at_ : Int) : Int × Int := if b0 = false then (10, at_ + 1) else if b1 = false then (10, at_ + 2) else if b2 = false then (10, at_ + 3) else if b3 = false then (10, at_ + 4) else (0, 0)
theorem check_tail {s : St} (h : headB s = true) (hpl : ∀ a ∈ s.players, plB a = true) (hcd : ∀ a ∈ s.cards, cardB s.players.length a = true) (hg : AllGood s.cards.length s.zones.flatten) (he : s.zones.flatten.length = s.cards.length) :
    checkP s = tailP (turnB s) (whoseB s) (endB s) (winB s) (1 + (s.players.length : Int) + (s.cards.length : Int) + (s.zones.flatten.length : Int)) := by
  rw [check_rest h hpl hcd hg, decide_eq_true he]
  cases turnB s <;> cases whoseB s <;> cases endB s <;> cases winB s <;> simp [firstF, answer, tailP] <;> omega
section
variable {b0 b1 b2 b3 : Bool} {x : Int}
theorem tail0 (h : b0 = false) : tailP b0 b1 b2 b3 x = (10, x + 1) := by subst h; rfl
theorem tail1 (h : b0 = true) (h1 : b1 = false) : tailP b0 b1 b2 b3 x = (10, x + 2) := by subst h h1; rfl
theorem tail2 (h : b0 = true) (h1 : b1 = true) (h2 : b2 = false) : tailP b0 b1 b2 b3 x = (10, x + 3) := by subst h h1 h2; rfl
theorem tail3 (h : b0 = true) (h1 : b1 = true) (h2 : b2 = true) (h3 : b3 = false) : tailP b0 b1 b2 b3 x = (10, x + 4) := by subst h h1 h2 h3; rfl
theorem tail4 (h : b0 = true) (h1 : b1 = true) (h2 : b2 = true) (h3 : b3 = true) : tailP b0 b1 b2 b3 x = (0, 0) := by subst h h1 h2 h3; rfl
end
theorem idx0 (a b c d : Value) (w : World) : (Instr.index 109 (.agg #[a, b, c, d]) (.int .i64 0)).run Tryz.prog w = .ok a w := by kernel_rfl
theorem idx1 (a b c d : Value) (w : World) : (Instr.index 109 (.agg #[a, b, c, d]) (.int .i64 1)).run Tryz.prog w = .ok b w := by kernel_rfl
theorem idx2 (a b c d : Value) (w : World) : (Instr.index 109 (.agg #[a, b, c, d]) (.int .i64 2)).run Tryz.prog w = .ok c w := by kernel_rfl
theorem idx3 (a b c d : Value) (w : World) : (Instr.index 109 (.agg #[a, b, c, d]) (.int .i64 3)).run Tryz.prog w = .ok d w := by kernel_rfl
section
variable {s : St}
theorem turn_f (h : turnB s = false) : ¬ (1 ≤ s.turn) := by simpa [turnB] using h
theorem turn_t (h : turnB s = true) : 1 ≤ s.turn := by simpa [turnB] using h
theorem whose_f (h : whoseB s = false) : ¬ (0 ≤ s.whose ∧ s.whose < s.players.length) := fun ⟨a, b⟩ => by simp [whoseB, a, b] at h
theorem whose_t (h : whoseB s = true) : 0 ≤ s.whose ∧ s.whose < s.players.length := by simpa [whoseB] using h
theorem end_f (h : endB s = false) : ¬ (s.fin = 0 ∨ s.fin = 1 ∨ s.fin = 2) := fun e => by rcases e with e | e | e <;> simp [endB, e] at h
theorem end_t (h : endB s = true) : s.fin = 0 ∨ s.fin = 1 ∨ s.fin = 2 := by simpa [endB, or_assoc] using h
theorem win_f (h : winB s = false) : (s.fin = 1 ∧ ¬ (0 ≤ s.winner ∧ s.winner < s.players.length)) ∨ (s.fin ≠ 1 ∧ s.winner ≠ 0) := by
  by_cases hf : s.fin = 1
  · refine .inl ⟨hf, fun ⟨a, b⟩ => ?_⟩
    simp [winB, hf, a, b] at h
  · refine .inr ⟨hf, fun e => ?_⟩
    simp [winB, hf, e] at h
theorem win_t (h : winB s = true) : (s.fin = 1 ∧ 0 ≤ s.winner ∧ s.winner < s.players.length) ∨ (s.fin ≠ 1 ∧ s.winner = 0) := by
  by_cases hf : s.fin = 1
  · exact .inl ⟨hf, by simpa [winB, hf] using h⟩
  · exact .inr ⟨hf, by simpa [winB, hf] using h⟩
end
theorem noGoto_back {Q : Exit → Act → World → Prop} {a : Act} {w : World} (h : Q .ret a w) : Exit.noGoto Q .ret a w := h
set_option maxRecDepth 100000 in
set_option maxHeartbeats 40000000 in
theorem check_any (s : St) (Ap Ac Az : Option Addr) (B cp cc cz : Nat) (w : World) (hx : StIn w B s Ap Ac Az) (hB : B ≤ w.heap.size) (hs : StSmall s) :
    Calls Tryz.prog 23 #[stV s Ap Ac Az cp cc cz] w fun e w' => e = .returned (.tuple #[.int .i64 (checkP s).1, .int .i64 (checkP s).2]) ∧ Keeps (fun _ => False) w w' := by
  unfold stV
  have HM := Lib.hid (Whole.made w 27 #[.slice Ap s.players.length cp, .slice Ac s.cards.length cc, .slice Az s.zones.length cz, .int .i32 s.turn, .int .i64 s.whose, .int .i8 s.fin, .int .i64 s.winner])
  have KK := Lib.hid ((Keeps.refl (fun _ => False) w).alloc (.cells #[.slice Ap s.players.length cp, .slice Ac s.cards.length cc, .slice Az s.zones.length cz, .int .i32 s.turn, .int .i64 s.whose, .int .i8 s.fin, .int .i64 s.winner] 27))
  have XX := Lib.hid hx
  have hpl := hs.players
  have hcl := hs.cards
  have hzl := hs.zones
  have SS := Lib.hid hs
  clear hx hs
  cases hh : headB s
  · have HC := Lib.hid (check_head hh)
    have HH : Hid (¬ (2 ≤ s.players.length ∧ s.players.length ≤ 4 ∧ 1 ≤ s.cards.length ∧ s.cards.length ≤ 256 ∧ s.zones.length = 4 * s.players.length)) := Lib.hid (fun h => by rw [(head_iff s).2 h] at hh; cases hh)
    clear hh
    go_enter Tryz.func23, Tryz.ntmps23
    go_wp2_with fail
    go_step3
    go_wp2_with fail
    go_quiet (fail)
    go_wp2_with fail
    all_goals first
      | (go_ret2
         exact ⟨by rw [HC.out]; rfl, KK.out.drewN _⟩)
      | (refine noGoto_back ?_
         go_ret2
         exact ⟨by rw [HC.out]; rfl, KK.out.drewN _⟩)
      | (exfalso
         refine HH.out ?_
         simp only [bne_eq_false_iff_eq] at *
         omega)
  · obtain ⟨h1, h2, h3, h4, h5⟩ := (head_iff s).1 hh
    have f1 : (decide ((s.players.length : Int) < 2)) = false := decide_eq_false (by omega)
    have f2 : (decide (4 < (s.players.length : Int))) = false := decide_eq_false (by omega)
    have f3 : (decide ((s.cards.length : Int) < 1)) = false := decide_eq_false (by omega)
    have f4 : (decide (256 < (s.cards.length : Int))) = false := decide_eq_false (by omega)
    have f5 : ((s.zones.length : Int) != 4 * (s.players.length : Int)) = false := eq_bool (by omega)
    have H5 := Lib.hid h5
    clear h5
    go_enter Tryz.func23, Tryz.ntmps23
    go_wp2_with fail
    go_step3
    go_wp2_with fail
    go_quiet (fail)
    go_wp2_with fail
    clear f1 f2 f3 f4 f5
    have HM0 := Lib.hid (HM.out.drewN nq)
    have KK0 := Lib.hid (KK.out.drewN nq)
    clear HM KK
    generalize (w.alloc (.cells #[.slice Ap s.players.length cp, .slice Ac s.cards.length cc, .slice Az s.zones.length cz, .int .i32 s.turn, .int .i64 s.whose, .int .i8 s.fin, .int .i64 s.winner] 27)).drewN nq = w0 at *
    go_loopw [6, 53] (fun va vi wr => ∃ i : Nat, i ≤ s.players.length ∧ vi = .int .i64 i ∧ va = .int .i64 (1 + i : Int) ∧ Hid (∀ a ∈ s.players.take i, plB a = true) ∧ Hid (Whole wr w.heap.size 27 #[.slice Ap s.players.length cp, .slice Ac s.cards.length cc, .slice Az s.zones.length cz, .int .i32 s.turn, .int .i64 s.whose, .int .i8 s.fin, .int .i64 s.winner]) ∧ Hid (Keeps (fun _ => False) w wr)) (fun _ vi _ => s.players.length - (intOf vi).toNat)
    case atStart => exact ⟨0, by omega, rfl, rfl, Lib.hid (by simp), HM0, KK0⟩
    case round =>
      clear HM0 KK0
      obtain ⟨i, hi, rfl, rfl, HP, HM, HK⟩ := hrel
      by_cases hlt : i < s.players.length
      · obtain ⟨g, off, rfl, hg, k0, k1, k2⟩ := PlLies.cells (FLies.keeps XX.out.players HK.out (fun _ _ => id) hB) i s.players[i] (List.getElem?_eq_getElem hlt)
        have HB : Hid (plB s.players[i] = false → checkP s = (10, 1 + (i : Int))) := Lib.hid (fun h => by
          have := check_player hh (take_split hlt) HP.out h
          rwa [List.length_take, Nat.min_eq_left hi] at this)
        have HG : Hid (plB s.players[i] = true → ∀ a ∈ s.players.take (i + 1), plB a = true) := Lib.hid (take_all HP.out hlt)
        clear HP
        generalize s.players[i] = x at *
        go_wp2_with fail
        refine (stat_any x.life _).mono ?_
        rintro e w1 ⟨rfl, rfl⟩
        cases hs0 : statB x.life
        · have HC := Lib.hid (HB.out (by simp [plB, hs0]))
          clear HB HG
          go_wp2_with fail
          first | go_ret2 | (rw [Exit.noGoto_ret]; go_ret2)
          exact ⟨by rw [HC.out]; rfl, HK.out.alloc _⟩
        go_wp2_with fail
        refine (stat_any x.energy _).mono ?_
        rintro e w1 ⟨rfl, rfl⟩
        cases hs1 : statB x.energy
        · have HC := Lib.hid (HB.out (by simp [plB, hs1]))
          clear HB HG
          go_wp2_with fail
          first | go_ret2 | (rw [Exit.noGoto_ret]; go_ret2)
          exact ⟨by rw [HC.out]; rfl, HK.out.alloc _⟩
        have HC := Lib.hid (HG.out (by simp [plB, hs0, hs1]))
        clear HB HG
        go_wp2_with fail
        go_roundw
        case rel => exact ⟨i + 1, by omega, by go_num, by go_num, HC, Lib.hid (HM.out.alloc _), Lib.hid (HK.out.alloc _)⟩
        case measure => simp [intOf]; omega
      · obtain rfl : i = s.players.length := by omega
        have HP' := Lib.hid (show ∀ a ∈ s.players, plB a = true by have := HP.out; rwa [List.take_length] at this)
        clear HP
        obtain ⟨a0, a1, a2, a3, a4, a5, a6, f0, f1, f2, f3, f4, f5, f6⟩ := seven HM.out
        go_wp2_with fail
        clear a0 a1 a2 a3 a4 a5 a6 f0 f1 f2 f3 f4 f5 f6
        go_loopw [6, 74] (fun va vi wr => ∃ i : Nat, i ≤ s.cards.length ∧ vi = .int .i64 i ∧ va = .int .i64 (1 + s.players.length + i : Int) ∧ Hid (∀ a ∈ s.cards.take i, cardB s.players.length a = true) ∧ Hid (Whole wr w.heap.size 27 #[.slice Ap s.players.length cp, .slice Ac s.cards.length cc, .slice Az s.zones.length cz, .int .i32 s.turn, .int .i64 s.whose, .int .i8 s.fin, .int .i64 s.winner]) ∧ Hid (Keeps (fun _ => False) w wr)) (fun _ vi _ => s.cards.length - (intOf vi).toNat)
        case atStart => exact ⟨0, by omega, rfl, by go_num, Lib.hid (by simp), HM, HK⟩
        case round =>
          clear HM HK
          obtain ⟨i, hi, rfl, rfl, HC, HM, HK⟩ := hrel
          by_cases hlt : i < s.cards.length
          · obtain ⟨g, off, rfl, hg, k0, k1, k2, k3, k4, k5⟩ := CdLies.cells (FLies.keeps XX.out.cards HK.out (fun _ _ => id) hB) i s.cards[i] (List.getElem?_eq_getElem hlt)
            have HB : Hid (cardB s.players.length s.cards[i] = false → checkP s = (10, 1 + (s.players.length : Int) + (i : Int))) := Lib.hid (fun h => by
              have := check_card hh HP'.out (take_split hlt) HC.out h
              rwa [List.length_take, Nat.min_eq_left hi] at this)
            have HG : Hid (cardB s.players.length s.cards[i] = true → ∀ a ∈ s.cards.take (i + 1), cardB s.players.length a = true) := Lib.hid (take_all HC.out hlt)
            clear HC
            generalize s.cards[i] = x at *
            go_wp2_with fail
            refine (card_any x s.players.length _).mono ?_
            rintro e w1 ⟨rfl, k1⟩
            cases hs0 : cardB s.players.length x
            · have HC := Lib.hid (HB.out hs0)
              clear HB HG
              go_wp2_with fail
              first | go_ret2 | (refine noGoto_back ?_; go_ret2)
              exact ⟨by rw [HC.out]; rfl, (HK.out.alloc _).trans k1⟩
            have HC := Lib.hid (HG.out hs0)
            clear HB HG
            go_wp2_with fail
            go_roundw
            case rel => exact ⟨i + 1, by omega, by go_num, by go_num, HC, Lib.hid ((HM.out.alloc _).keeps k1 id), Lib.hid ((HK.out.alloc _).trans k1)⟩
            case measure => simp [intOf]; omega
          · obtain rfl : i = s.cards.length := by omega
            have HC' := Lib.hid (show ∀ a ∈ s.cards, cardB s.players.length a = true by have := HC.out; rwa [List.take_length] at this)
            clear HC
            obtain ⟨a0, a1, a2, a3, a4, a5, a6, f0, f1, f2, f3, f4, f5, f6⟩ := seven HM.out
            have hz := zero_stood
            have hin := HM.out.inside
            go_wp2_with fail
            go_step3
            clear hz
            go_wp2_with fail
            clear a0 a1 a2 a3 a4 a5 a6 f0 f1 f2 f3 f4 f5 f6
            have HA := Lib.hid (Whole.made wr 108 (stoodV []))
            have HM1 := Lib.hid (HM.out.alloc (.cells (stoodV []) 108))
            have HK1 := Lib.hid (HK.out.alloc (.cells (stoodV []) 108))
            generalize wr.alloc (.cells (stoodV []) 108) = v0 at *
            have HQ : Hid (w.heap.size < wr.heap.size) := Lib.hid hin
            clear hin
            clear HM HK
            generalize wr.heap.size = q at *
            clear hlt
            go_loopw [12, 13, 89] (fun ve vg vi wr => ∃ i k : Nat, i ≤ s.zones.length ∧ vi = .int .i64 i ∧ ve = .int .i64 k ∧ vg = .bool true ∧ Hid (k = (s.zones.take i).flatten.length ∧ AllGood s.cards.length (s.zones.take i).flatten) ∧ Hid (Whole wr q 108 (stoodV (s.zones.take i).flatten)) ∧ Hid (Whole wr w.heap.size 27 #[.slice Ap s.players.length cp, .slice Ac s.cards.length cc, .slice Az s.zones.length cz, .int .i32 s.turn, .int .i64 s.whose, .int .i8 s.fin, .int .i64 s.winner]) ∧ Hid (Keeps (fun _ => False) w wr)) (fun _ _ vi _ => s.zones.length - (intOf vi).toNat)
            case atStart => exact ⟨0, 0, by omega, rfl, rfl, rfl, Lib.hid (by simp [AllGood.nil]), by simpa using HA, HM1, HK1⟩
            case round =>
              clear HA HM1 HK1
              obtain ⟨i, k, hi, rfl, rfl, rfl, HE, HA, HM, HK⟩ := hrel
              by_cases hlt : i < s.zones.length
              · obtain ⟨g, off, Ai, ci, hAz, hg, hc0, hl0⟩ := XX.out.zones i s.zones[i] (List.getElem?_eq_getElem hlt)
                subst hAz
                have hc := (HK.out.cell (b := g) (o := off + i) (by omega) id).trans hc0
                have HL := Lib.hid hl0
                clear hc0 hl0
                have HI : Hid (s.zones[i]? = some s.zones[i]) := Lib.hid (List.getElem?_eq_getElem hlt)
                have hri := SS.out.rows s.zones[i] (List.getElem_mem hlt)
                generalize s.zones[i] = r at *
                go_wp2_with fail
                have HE0 : Hid (k = (ahead s.zones i r 0).length ∧ AllGood s.cards.length (ahead s.zones i r 0)) := by rw [ahead_zero]; exact HE
                have HA0 : Hid (Whole wr q 108 (stoodV (ahead s.zones i r 0))) := by rw [ahead_zero]; exact HA
                clear HE HA
                go_loopw [12, 13, 95] (fun ve vg vj wr => ∃ j k : Nat, j ≤ r.length ∧ vj = .int .i64 j ∧ ve = .int .i64 k ∧ vg = .bool true ∧ Hid (k = (ahead s.zones i r j).length ∧ AllGood s.cards.length (ahead s.zones i r j)) ∧ Hid (Whole wr q 108 (stoodV (ahead s.zones i r j))) ∧ Hid (Whole wr w.heap.size 27 #[.slice Ap s.players.length cp, .slice Ac s.cards.length cc, .slice (some ⟨g, off, none⟩) s.zones.length cz, .int .i32 s.turn, .int .i64 s.whose, .int .i8 s.fin, .int .i64 s.winner]) ∧ Hid (Keeps (fun _ => False) w wr)) (fun _ _ vj _ => r.length - (intOf vj).toNat)
                case atStart => exact ⟨0, k, by omega, rfl, rfl, rfl, HE0, HA0, HM, HK⟩
                case round =>
                  clear HE0 HA0 HM HK hc
                  obtain ⟨j, k, hj, rfl, rfl, rfl, HE, HA, HM, HK⟩ := hrel
                  by_cases hlj : j < r.length
                  · obtain ⟨gr, offr, hAr, hgr, hcr⟩ := (HL.out.keeps HK.out (fun _ _ => id) hB) j (.int .i64 r[j]) (by simp [hlj])
                    subst hAr
                    have HS : Hid (¬ (0 ≤ r[j] ∧ r[j] < (s.cards.length : Int) ∧ r[j] ∉ ahead s.zones i r j) → checkP s = (10, 1 + (s.players.length : Int) + (s.cards.length : Int) + (k : Int))) := Lib.hid (fun h => by
                      obtain ⟨t, ht⟩ := ahead_split s.zones i r j HI.out hlj
                      have := check_entry hh HP'.out HC'.out ht HE.out.2 h
                      rwa [← HE.out.1] at this)
                    have HT : Hid ((0 ≤ r[j] ∧ r[j] < (s.cards.length : Int) ∧ r[j] ∉ ahead s.zones i r j) → k + 1 = (ahead s.zones i r (j + 1)).length ∧ AllGood s.cards.length (ahead s.zones i r (j + 1))) := Lib.hid (fun h => by
                      rw [ahead_next _ _ _ _ hlj]
                      exact ⟨by rw [List.length_append, ← HE.out.1]; rfl, HE.out.2.snoc h⟩)
                    have HN := Lib.hid (ahead_next s.zones i r j hlj)
                    have hk : k ≤ 256 := by
                      have h7 := (AllGood.full HE.out.2).1
                      have h8 := HE.out.1
                      omega
                    generalize r[j] = x at *
                    generalize ahead s.zones i r j = p at *
                    generalize hpe : ahead s.zones i r (j + 1) = p' at *
                    have HPE := Lib.hid hpe
                    clear hpe
                    by_cases x0 : 0 ≤ x
                    rotate_left
                    · have HB' := Lib.hid (HS.out (fun h => x0 h.1))
                      clear HS HT HA HE
                      go_wp2_with fail
                      first | go_ret2 | (refine noGoto_back ?_; go_ret2)
                      exact ⟨by rw [HB'.out]; rfl, HK.out⟩
                    by_cases x1 : x < (s.cards.length : Int)
                    rotate_left
                    · have HB' := Lib.hid (HS.out (fun h => x1 h.2.1))
                      clear HS HT HA HE
                      go_wp2_with fail
                      first | go_ret2 | (refine noGoto_back ?_; go_ret2)
                      exact ⟨by rw [HB'.out]; rfl, HK.out⟩
                    obtain ⟨y, rfl⟩ : ∃ y : Nat, x = (y : Int) := ⟨x.toNat, by omega⟩
                    have hy : y < 256 := by omega
                    have hcy := (HA.out.cellAt y).trans (stoodV_get p y hy)
                    by_cases x2 : (y : Int) ∈ p
                    · rw [decide_eq_true x2] at hcy
                      have HB' := Lib.hid (HS.out (fun h => h.2.2 x2))
                      clear HS HT HA HE x2
                      go_wp2_with fail
                      first | go_ret2 | (refine noGoto_back ?_; go_ret2)
                      exact ⟨by rw [HB'.out]; rfl, HK.out⟩
                    · rw [decide_eq_false x2] at hcy
                      have HT' := Lib.hid (HT.out ⟨x0, x1, x2⟩)
                      have hfy := HA.out.free y
                      have HA' : Hid (Whole (wr.setCell ⟨q, y, none⟩ (.bool true)) q 108 (stoodV p')) := Lib.hid (by rw [HN.out, ← stoodV_put]; exact HA.out.put y _)
                      have HM' := Lib.hid (HM.out.putFar (p := ⟨q, y, none⟩) (by have := HQ.out; show w.heap.size ≠ q; omega) (.bool true))
                      have HK' := Lib.hid (HK.out.setCell (p := ⟨q, y, none⟩) (fun h => by have := HQ.out; have h' : q < w.heap.size := h; omega) (.bool true))
                      clear HS HT HA HE HM HK x2
                      go_wp2_with fail
                      go_roundw
                      case rel => exact ⟨j + 1, k + 1, by omega, by go_num, by go_num, rfl, by rw [HPE.out]; exact HT', by rw [HPE.out]; exact HA', HM', HK'⟩
                      case measure => simp [intOf]; omega
                  · have hjr : j = r.length := by omega
                    subst hjr
                    rw [ahead_full _ _ _ HI.out] at HE HA
                    have HE1 := Lib.hid HE.out
                    have HA1 := Lib.hid HA.out
                    clear HE HA
                    go_wp2_with fail
                    go_roundw
                    case rel => exact ⟨i + 1, k, by omega, by go_num, rfl, rfl, HE1, HA1, HM, HK⟩
                    case measure => simp [intOf]; omega
              · obtain rfl : i = s.zones.length := by omega
                have HE' := Lib.hid (show k = s.zones.flatten.length ∧ AllGood s.cards.length s.zones.flatten by have := HE.out; rwa [List.take_length] at this)
                have hk : k ≤ 256 := by
                  have h7 := (AllGood.full HE'.out.2).1
                  have h8 := HE'.out.1
                  omega
                clear HE HA
                by_cases hkm : k = s.cards.length
                rotate_left
                · have HB' := Lib.hid (check_short hh HP'.out HC'.out HE'.out.2 (by rw [← HE'.out.1]; exact hkm))
                  go_wp2_with fail
                  first | go_ret2 | (refine noGoto_back ?_; go_ret2)
                  exact ⟨by rw [HB'.out, ← HE'.out.1]; rfl, HK.out⟩
                have HB' := Lib.hid (by have h7 := check_tail hh HP'.out HC'.out HE'.out.2 (by rw [← HE'.out.1]; exact hkm); rwa [← HE'.out.1, hkm] at h7)
                obtain ⟨a0, a1, a2, a3, a4, a5, a6, f0, f1, f2, f3, f4, f5, f6⟩ := seven HM.out
                rcases Classical.em (0 ≤ s.whose) with hw | hw <;> rcases Classical.em (s.fin = 1) with hf | hf <;> rcases Classical.em (0 ≤ s.fin) with hn | hn <;> rcases Classical.em (0 ≤ s.winner) with hv | hv
                all_goals first
                  | (exfalso; omega)
                  | skip
                all_goals
                  first
                    | have hfb : (s.fin == 1) = true := beq_iff_eq.2 hf
                    | have hfb : (s.fin == 1) = false := beq_eq_false_iff_ne.2 hf
                  have HF := Lib.hid hf
                  clear hf
                  go_wp2_with fail
                  have hf := HF.out
                  clear a0 a1 a2 a3 a4 a5 a6 f0 f1 f2 f3 f4 f5 f6
                  go_loopw [169] (fun vi wq => ∃ i : Nat, i ≤ 4 ∧ vi = .int .i64 i ∧ Hid (1 ≤ i → turnB s = true) ∧ Hid (2 ≤ i → whoseB s = true) ∧ Hid (3 ≤ i → endB s = true) ∧ Hid (4 ≤ i → winB s = true) ∧ wq = wr) (fun vi _ => 4 - (intOf vi).toNat)
                  case atStart => exact ⟨0, by omega, rfl, Lib.hid (fun h => absurd h (by omega)), Lib.hid (fun h => absurd h (by omega)), Lib.hid (fun h => absurd h (by omega)), Lib.hid (fun h => absurd h (by omega)), rfl⟩
                  case round =>
                    obtain ⟨i, hi4, rfl, I0, I1, I2, I3, rfl⟩ := hrel
                    obtain rfl | rfl | rfl | rfl | rfl : i = 0 ∨ i = 1 ∨ i = 2 ∨ i = 3 ∨ i = 4 := by omega
                    · have hix := idx0
                      cases hb : turnB s
                      · have HB0 := Lib.hid hb
                        have hb' := turn_f hb
                        try have hp0 : ¬ (1 ≤ s.turn) := by omega
                        clear hb hb' hf
                        go_wp2_with fail
                        first | go_ret2 | (refine noGoto_back ?_; go_ret2)
                        exact ⟨by rw [HB'.out, tail0  HB0.out]; rfl, HK.out⟩
                      · have HB0 := Lib.hid hb
                        have hb' := turn_t hb
                        first
                          | (exfalso; omega)
                          | (try have hp0 : 1 ≤ s.turn := by omega
                             clear hb hb' hf
                             go_wp2_with fail
                             first
                               | (go_roundw
                                  case rel => exact ⟨1, by omega, by go_num, Lib.hid (fun _ => by first | exact HB0.out | trivial), Lib.hid (fun h => absurd h (by omega)), Lib.hid (fun h => absurd h (by omega)), Lib.hid (fun h => absurd h (by omega)), rfl⟩
                                  case measure => simp [intOf])
                               | exact ⟨⟨1, by omega, by go_num, Lib.hid (fun _ => by first | exact HB0.out | trivial), Lib.hid (fun h => absurd h (by omega)), Lib.hid (fun h => absurd h (by omega)), Lib.hid (fun h => absurd h (by omega)), trivial⟩, by simp [intOf]⟩)
                    · have hix := idx1
                      cases hb : whoseB s
                      · have HB0 := Lib.hid hb
                        have hb' := whose_f hb
                        try have hp0 : ¬ (s.whose < (s.players.length : Int)) := by omega
                        clear hb hb' hf
                        go_wp2_with fail
                        first | go_ret2 | (refine noGoto_back ?_; go_ret2)
                        exact ⟨by rw [HB'.out, tail1 (I0.out (by omega)) HB0.out]; rfl, HK.out⟩
                      · have HB0 := Lib.hid hb
                        have hb' := whose_t hb
                        first
                          | (exfalso; omega)
                          | (try have hp0 : s.whose < (s.players.length : Int) := by omega
                             try have hp1 : 0 ≤ s.whose := by omega
                             clear hb hb' hf
                             go_wp2_with fail
                             first
                               | (go_roundw
                                  case rel => exact ⟨2, by omega, by go_num, Lib.hid (fun _ => I0.out (by omega)), Lib.hid (fun _ => by first | exact HB0.out | trivial), Lib.hid (fun h => absurd h (by omega)), Lib.hid (fun h => absurd h (by omega)), rfl⟩
                                  case measure => simp [intOf])
                               | exact ⟨⟨2, by omega, by go_num, Lib.hid (fun _ => I0.out (by omega)), Lib.hid (fun _ => by first | exact HB0.out | trivial), Lib.hid (fun h => absurd h (by omega)), Lib.hid (fun h => absurd h (by omega)), trivial⟩, by simp [intOf]⟩)
                    · have hix := idx2
                      cases hb : endB s
                      · have HB0 := Lib.hid hb
                        have hb' := end_f hb
                        try have hp0 : ¬ (s.fin ≤ 2) := by omega
                        clear hb hb' hf
                        go_wp2_with fail
                        first | go_ret2 | (refine noGoto_back ?_; go_ret2)
                        exact ⟨by rw [HB'.out, tail2 (I0.out (by omega)) (I1.out (by omega)) HB0.out]; rfl, HK.out⟩
                      · have HB0 := Lib.hid hb
                        have hb' := end_t hb
                        first
                          | (exfalso; omega)
                          | (try have hp0 : s.fin ≤ 2 := by omega
                             try have hp1 : 0 ≤ s.fin := by omega
                             clear hb hb' hf
                             go_wp2_with fail
                             first
                               | (go_roundw
                                  case rel => exact ⟨3, by omega, by go_num, Lib.hid (fun _ => I0.out (by omega)), Lib.hid (fun _ => I1.out (by omega)), Lib.hid (fun _ => by first | exact HB0.out | trivial), Lib.hid (fun h => absurd h (by omega)), rfl⟩
                                  case measure => simp [intOf])
                               | exact ⟨⟨3, by omega, by go_num, Lib.hid (fun _ => I0.out (by omega)), Lib.hid (fun _ => I1.out (by omega)), Lib.hid (fun _ => by first | exact HB0.out | trivial), Lib.hid (fun h => absurd h (by omega)), trivial⟩, by simp [intOf]⟩)
                    · have hix := idx3
                      cases hb : winB s
                      · have HB0 := Lib.hid hb
                        have hb' := win_f hb
                        try have hp0 : ¬ (s.winner < (s.players.length : Int)) := by omega
                        try have hz : (s.winner == 0) = false := by first | exact beq_iff_eq.2 (by omega) | exact beq_eq_false_iff_ne.2 (by omega)
                        clear hb hb' hf
                        go_wp2_with fail
                        first | go_ret2 | (refine noGoto_back ?_; go_ret2)
                        exact ⟨by rw [HB'.out, tail3 (I0.out (by omega)) (I1.out (by omega)) (I2.out (by omega)) HB0.out]; rfl, HK.out⟩
                      · have HB0 := Lib.hid hb
                        have hb' := win_t hb
                        first
                          | (exfalso; omega)
                          | (try have hp0 : s.winner < (s.players.length : Int) := by omega
                             try have hp1 : 0 ≤ s.winner := by omega
                             try have hz : (s.winner == 0) = true := by first | exact beq_iff_eq.2 (by omega) | exact beq_eq_false_iff_ne.2 (by omega)
                             clear hb hb' hf
                             go_wp2_with fail
                             first
                               | (go_roundw
                                  case rel => exact ⟨4, by omega, by go_num, Lib.hid (fun _ => I0.out (by omega)), Lib.hid (fun _ => I1.out (by omega)), Lib.hid (fun _ => I2.out (by omega)), Lib.hid (fun _ => by first | exact HB0.out | trivial), rfl⟩
                                  case measure => simp [intOf])
                               | exact ⟨⟨4, by omega, by go_num, Lib.hid (fun _ => I0.out (by omega)), Lib.hid (fun _ => I1.out (by omega)), Lib.hid (fun _ => I2.out (by omega)), Lib.hid (fun _ => by first | exact HB0.out | trivial), trivial⟩, by simp [intOf]⟩)
                    · go_wp2_with fail
                      first | go_ret2 | (refine noGoto_back ?_; go_ret2)
                      exact ⟨by rw [HB'.out, tail4 (I0.out (by omega)) (I1.out (by omega)) (I2.out (by omega)) (I3.out (by omega))]; rfl, HK.out⟩
end Go.Proofs.YthmfbcfbcookiaaGreatDoor
