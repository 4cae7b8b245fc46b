/-
  Where a card stands: the program's walk and the document's. Conditions: lengths within 10 ^ 9.
-/
import Derived.Test.YtgbikcliembkcaaDoorChE
namespace Go.Proofs.YtgbikcliembkcaaDoor
open Go.RowKit
def findI (c : Int) : List Int → Option Nat
  | [] => none
  | x :: r => if x = c then some 0 else (findI c r).map (· + 1)
def findR (c : Int) : List (List Int) → Option (Nat × Nat)
  | [] => none
  | r :: l => match findI c r with
    | some i => some (0, i)
    | none => (findR c l).map (fun p => (p.1 + 1, p.2))
theorem findI_none {c : Int} {l : List Int} (h : c ∉ l) : findI c l = none := by
  induction l with
  | nil => rfl
  | cons x l ih =>
    rw [findI, if_neg (fun e => h (by simp [e])), ih (fun e => h (by simp [e]))]; rfl
theorem findI_some {c : Int} {p r : List Int} (h : c ∉ p) : findI c (p ++ c :: r) = some p.length := by
  induction p with
  | nil => simp [findI]
  | cons x p ih =>
    rw [List.cons_append, findI, if_neg (fun e => h (by simp [e])), ih (fun e => h (by simp [e]))]; rfl
theorem findR_none {c : Int} {l : List (List Int)} (h : ∀ r ∈ l, c ∉ r) : findR c l = none := by
  induction l with
  | nil => rfl
  | cons x l ih => rw [findR, findI_none (h x (by simp)), ih (fun r hr => h r (by simp [hr]))]; rfl
theorem findR_some {c : Int} {p q : List (List Int)} {x : List Int} {i : Nat} (h : ∀ r ∈ p, c ∉ r) (hi : findI c x = some i) : findR c (p ++ x :: q) = some (p.length, i) := by
  induction p with
  | nil => simp [findR, hi]
  | cons y p ih => rw [List.cons_append, findR, findI_none (h y (by simp)), ih (fun r hr => h r (by simp [hr]))]; rfl
theorem findI_gone {c : Int} {l : List Int} (h : findI c l = none) : c ∉ l := by
  induction l with
  | nil => simp
  | cons x l ih =>
    rw [findI] at h
    split at h
    · cases h
    · rename_i hx
      have h' : findI c l = none := by cases hh : findI c l with
        | none => rfl
        | some k => rw [hh] at h; cases h
      intro hm
      rcases List.mem_cons.1 hm with e | e
      · exact hx e.symm
      · exact ih h' e
def whereO (s : St) (c : Int) : Option (Nat × Nat) := if (checkP s).1 = 0 then findR c s.zones else none
def whereV (o : Option (Nat × Nat)) : Value := match o with
  | some p => .tuple #[.int .i64 p.1, .int .i64 p.2, .bool true]
  | none => .tuple #[.int .i64 0, .int .i64 0, .bool false]
def idxV (o : Option Nat) : Int := match o with | some i => (i : Int) | none => -1
theorem idxV_none : idxV none = -1 := rfl
theorem idxV_some (i : Nat) : idxV (some i) = (i : Int) := rfl
set_option maxHeartbeats 1000000 in
theorem index_any (l : List Int) (c : Int) (A : Option Addr) (B cap : Nat) (w : World) (hx : Lies w B A (l.map (Value.int .i64))) (hl : l.length ≤ 1000000000) :
    Calls Tryd.prog 68 #[.slice A l.length cap, .int .i64 c] w fun e w' => e = .returned (.int .i64 (idxV (findI c l))) ∧ w' = w := by
  have HD : Hid (∀ i (h : i < l.length), l[i] = c → c ∉ l.take i → findI c l = some i) := Lib.hid (fun i h e hn => by
    conv => lhs; rw [take_split h, e]
    rw [findI_some hn, List.length_take, Nat.min_eq_left (Nat.le_of_lt h)])
  have HE : Hid (c ∉ l → findI c l = none) := Lib.hid findI_none
  generalize findI c l = o at *
  have HX := Lib.hid hx
  clear hx
  go_enter Tryd.func68, Tryd.ntmps68
  go_wp2_with fail
  go_loopw [8] (fun vi wr => ∃ i : Nat, i ≤ l.length ∧ vi = .int .i64 i ∧ Hid (c ∉ l.take i) ∧ wr = w) (fun vi _ => l.length - (intOf vi).toNat)
  case atStart => exact ⟨0, by omega, rfl, Lib.hid (by simp), rfl⟩
  case round =>
    obtain ⟨i, hi, rfl, HN, rfl⟩ := hrel
    by_cases hlt : i < l.length
    · obtain ⟨g, off, rfl, _, hc⟩ := HX.out i (.int .i64 l[i]) (by simp [hlt])
      have H1 : Hid (l[i] = c → o = some i) := Lib.hid (fun e => HD.out i hlt e HN.out)
      have H2 : Hid (l[i] ≠ c → c ∉ l.take (i + 1)) := Lib.hid (fun e h => by
        rw [List.take_succ_eq_append_getElem hlt] at h
        rcases List.mem_append.1 h with h1 | h1
        · exact HN.out h1
        · exact e (List.mem_singleton.1 h1).symm)
      generalize l[i] = x at *
      by_cases e : x = c
      · have H3 := Lib.hid (H1.out e)
        have hq : (c == x) = true := beq_iff_eq.2 e.symm
        clear H1 H2 e
        go_wp2_with fail
        go_ret
        exact ⟨by rw [H3.out]; rfl, by first | rfl | trivial⟩
      · have H3 := Lib.hid (H2.out e)
        have hq : (c == x) = false := beq_eq_false_iff_ne.2 (fun h => e h.symm)
        clear H1 H2 e
        go_wp2_with fail
        go_roundw
        case rel => exact ⟨i + 1, by omega, by go_num, H3, by first | rfl | trivial⟩
        case measure => simp [intOf]; omega
    · obtain rfl : i = l.length := by omega
      rw [List.take_length] at HN
      have H3 := Lib.hid (HE.out HN.out)
      clear HN
      go_wp2_with fail
      go_ret
      exact ⟨by rw [H3.out]; rfl, by first | rfl | trivial⟩
set_option maxHeartbeats 1000000 in
theorem where_any (s : St) (c : Int) (Ap Ac Az : Option Addr) (B cp cc cz : Nat) (w : World) (hx : StIn w B s Ap Ac Az) (hB : B ≤ w.heap.size) (hs : StSmall s) :
    Calls Tryd.prog 54 #[stV s Ap Ac Az cp cc cz, .int .i64 c] w fun e w' => e = .returned (whereV (whereO s c)) ∧ Keeps (fun _ => False) w w' := by
  have HC := fun w (hx : StIn w B s Ap Ac Az) (hB : B ≤ w.heap.size) => check_any s Ap Ac Az B cp cc cz w hx hB hs
  unfold stV at *
  have HM := Lib.hid (Whole.made w 32 #[.slice Ap s.players.length cp, .slice Ac s.cards.length cc, .slice Az s.zones.length cz, .int .i32 s.turn, .int .i64 s.whose, .int .i8 s.fin, .int .i64 s.winner])
  have K0 := Lib.hid ((Keeps.refl (fun _ => False) w).alloc (.cells #[.slice Ap s.players.length cp, .slice Ac s.cards.length cc, .slice Az s.zones.length cz, .int .i32 s.turn, .int .i64 s.whose, .int .i8 s.fin, .int .i64 s.winner] 32))
  have HC1 := HC _ (hx.keeps K0.out (fun _ _ => id) hB) (Nat.le_trans hB (by simp))
  have HW : Hid (whereO s c = if (checkP s).1 = 0 then findR c s.zones else none) := Lib.hid rfl
  have XX := Lib.hid hx
  have SS := Lib.hid hs
  have hzl := hs.zones
  clear HC hx hs
  generalize checkP s = ck at *
  obtain ⟨c1, c2⟩ := ck
  go_enter Tryd.func54, Tryd.ntmps54
  go_wp2_with fail
  refine HC1.mono ?_
  rintro e w1 ⟨rfl, hk⟩
  clear HC1
  have HM1 := Lib.hid (HM.out.keeps hk id)
  have HK := Lib.hid (K0.out.trans hk)
  clear HM K0 hk
  by_cases h0 : c1 = 0
  rotate_left
  · have HW' : Hid (whereO s c = none) := Lib.hid (by rw [HW.out, if_neg h0])
    clear HW
    go_wp2_with fail
    go_ret3
    exact ⟨by rw [HW'.out]; rfl, HK.out⟩
  subst h0
  have HW' : Hid (whereO s c = findR c s.zones) := Lib.hid (by rw [HW.out]; rfl)
  clear HW
  obtain ⟨a0, a1, a2, a3, a4, a5, a6, f0, f1, f2, f3, f4, f5, f6⟩ := seven HM1.out
  go_wp2_with fail
  clear a0 a1 a2 a3 a4 a5 a6 f0 f1 f2 f3 f4 f5 f6
  go_loopw [22] (fun vi wr => ∃ i : Nat, i ≤ s.zones.length ∧ vi = .int .i64 i ∧ Hid (∀ r ∈ s.zones.take i, c ∉ r) ∧ wr = w1) (fun vi _ => s.zones.length - (intOf vi).toNat)
  case atStart => exact ⟨0, by omega, rfl, Lib.hid (by simp), rfl⟩
  case round =>
    obtain ⟨i, hi, rfl, HN, rfl⟩ := hrel
    by_cases hlt : i < s.zones.length
    · obtain ⟨g, off, Ai, ci, hAz, hg, hc0, hl0⟩ := XX.out.zones i s.zones[i] (List.getElem?_eq_getElem hlt)
      subst hAz
      have hc := (HK.out.cell (b := g) (o := off + i) (by omega) id).trans hc0
      have HL := Lib.hid (hl0.keeps HK.out (fun _ _ => id) hB)
      have hri := SS.out.rows s.zones[i] (List.getElem_mem hlt)
      have H1 : Hid (∀ k, findI c s.zones[i] = some k → whereO s c = some (i, k)) := Lib.hid (fun k hk => by
        rw [HW'.out]
        conv => lhs; rw [take_split hlt]
        rw [findR_some HN.out hk, List.length_take, Nat.min_eq_left hi])
      have H2 : Hid (findI c s.zones[i] = none → ∀ r ∈ s.zones.take (i + 1), c ∉ r) := Lib.hid (fun hk r hr => by
        rw [List.take_succ_eq_append_getElem hlt] at hr
        rcases List.mem_append.1 hr with h1 | h1
        · exact HN.out r h1
        · rw [List.mem_singleton.1 h1]
          exact findI_gone hk)
      clear hc0 hl0
      generalize s.zones[i] = r at *
      go_wp2_with fail
      refine (index_any r c Ai B ci _ HL.out hri).mono ?_
      rintro e w2 ⟨rfl, rfl⟩
      cases ho : findI c r with
      | none =>
        have H3 := Lib.hid (H2.out ho)
        rw [idxV_none]
        clear H1 H2 ho
        go_wp2_with fail
        go_roundw
        case rel => exact ⟨i + 1, by omega, by go_num, H3, by first | rfl | trivial⟩
        case measure => simp [intOf]; omega
      | some k =>
        have H3 := Lib.hid (H1.out k ho)
        rw [idxV_some]
        clear H1 H2 ho
        go_wp2_with fail
        go_ret3
        exact ⟨by rw [H3.out]; rfl, HK.out⟩
    · obtain rfl : i = s.zones.length := by omega
      rw [List.take_length] at HN
      have H3 : Hid (whereO s c = none) := Lib.hid (by rw [HW'.out]; exact findR_none HN.out)
      clear HN
      go_wp2_with fail
      go_ret3
      exact ⟨by rw [H3.out]; rfl, HK.out⟩
end Go.Proofs.YtgbikcliembkcaaDoor
