/-
  Chapter 04: the document's Cut and Put; lists with marks behind: the walks. Conditions: lengths within 10 ^ 9.
-/
import Derived.Test.YtbfhbekocgdceaaRcA
namespace Go.Proofs.Ytbfhbekocgdceaa
open Go.RowKit
/-- What stands behind i rounds of the document's Cut. -/
def cutTo (xs : List Int) (k i : Nat) : List Int := if i ≤ k then xs.take i else xs.take k ++ (xs.take i).drop (k + 1)
theorem cutTo_length (xs : List Int) (k i : Nat) (hi : i ≤ xs.length) : (cutTo xs k i).length = if i ≤ k then i else i - 1 := by
  unfold cutTo; split <;> simp <;> omega
theorem cutTo_skip (xs : List Int) (k : Nat) : cutTo xs k (k + 1) = cutTo xs k k := by
  unfold cutTo; rw [if_neg (by omega), if_pos (Nat.le_refl _)]; simp
theorem cutTo_step (xs : List Int) (k i : Nat) (hi : i < xs.length) (hk : i ≠ k) : cutTo xs k (i + 1) = cutTo xs k i ++ [xs[i]] := by
  unfold cutTo
  by_cases h : i < k
  · rw [if_pos (by omega), if_pos (by omega), List.take_succ_eq_append_getElem hi]
  · rw [if_neg (by omega), if_neg (by omega), List.take_succ_eq_append_getElem hi, List.drop_append_of_le_length (by simp; omega), List.append_assoc]
theorem cutTo_all (xs : List Int) (k : Nat) (h : k < xs.length) : cutTo xs k xs.length = xs.take k ++ xs.drop (k + 1) := by
  unfold cutTo; rw [if_neg (by omega), List.take_length]
set_option maxHeartbeats 1000000 in
theorem refCut_out (A : Option Addr) (n cap : Nat) (at_ : Int) (w : World) (h : at_ < 0 ∨ (n : Int) ≤ at_) :
    Calls Try.prog 26 #[.slice A n cap, .int .i64 at_] w fun e w' => e = .returned (.tuple #[.slice none 0 0, .int .i64 0, .bool false]) ∧ w = w' := by
  by_cases h0 : at_ < 0
  · clear h
    go_enter Try.func26, Try.ntmps26
    go_wp2_with fail
    go_ret3
    exact ⟨rfl, rfl⟩
  · have h1 : (n : Int) ≤ at_ := by omega
    clear h
    go_enter Try.func26, Try.ntmps26
    go_wp2_with fail
    go_ret3
    exact ⟨rfl, rfl⟩
set_option maxHeartbeats 2000000 in
theorem refCut_in (xs : List Int) (A : Option Addr) (cap k : Nat) (w : World) (hx : Lies w w.heap.size A (xs.map (Value.int .i64))) (hl : xs.length ≤ 1000000000) (hk : k < xs.length) :
    Calls Try.prog 26 #[.slice A xs.length cap, .int .i64 k] w fun e w' => ∃ A' c', e = .returned (.tuple #[.slice A' (xs.length - 1) c', .int .i64 xs[k], .bool true]) ∧ w'.ownsRow w.heap.size 3 1 (.slice A' (xs.length - 1) c') (xs.length - 1) ((xs.take k ++ xs.drop (k + 1)).map (Value.int .i64)) ∧ Keeps (fun _ => False) w w' := by
  have HX := Lib.hid hx
  clear hx
  have hkI : (k : Int) < (xs.length : Int) := by omega
  have hnn : ¬ ((k : Int) < 0) := by omega
  go_enter Try.func26, Try.ntmps26
  go_wp2_with fail
  clear hnn
  go_loopw [7, 8] (fun vo vi wr => ∃ (i n : Nat) (oA : Option Addr) (oc : Nat), i ≤ xs.length ∧ vi = .int .i64 i ∧ vo = .slice oA n oc ∧ n ≤ i ∧ Hid (n = (cutTo xs k i).length) ∧ Hid (wr.ownsRow w.heap.size 3 1 (.slice oA n oc) n ((cutTo xs k i).map (Value.int .i64))) ∧ Hid (Keeps (fun b => w.heap.size ≤ b) w wr)) (fun _ vi _ => xs.length - (intOf vi).toNat)
  case atStart => exact ⟨0, 0, none, 0, by omega, rfl, rfl, Nat.le_refl _, Lib.hid (by simp [cutTo]), Lib.hid (by simpa [cutTo] using World.ownsRow_nil _ _ _ _), Lib.hid (Keeps.refl _ _)⟩
  case round =>
    obtain ⟨i, n, oA, oc, hi, rfl, rfl, hn, HN, HO, HK⟩ := hrel
    by_cases hlt : i < xs.length
    · by_cases hik : i = k
      · have hik2 : ((i : Int) != (k : Int)) = false := by simp [hik]
        have HC := Lib.hid (cutTo_skip xs k)
        have H1 := Lib.hid hik
        clear hik
        go_wp2_with fail
        go_roundw
        case rel => exact ⟨i + 1, n, oA, oc, by omega, by go_num, rfl, by omega, Lib.hid (by rw [HN.out, H1.out, HC.out]), Lib.hid (by have := HO.out; rw [H1.out] at this ⊢; rw [HC.out]; exact this), HK⟩
        case measure => (simp [intOf] <;> omega)
      · have hik2 : ((i : Int) != (k : Int)) = true := by simp; omega
        have HC := Lib.hid (cutTo_step xs k i hlt hik)
        obtain ⟨g, off, rfl, hg, hc0⟩ := HX.out i _ (map_get xs i hlt)
        have hc : wr.cell? ⟨g, off + i, none⟩ = some (.int .i64 xs[i]) := (HK.out.cell hg (by omega)).trans hc0
        have hsz := HK.out.size
        clear hc0
        generalize xs[i] = x at *
        have hcx : ∀ o, (wr.alloc o).heap.size = wr.heap.size + 1 := fun o => by simp
        go_wp2_with (at_builtin; (refine wpList_append_cells _ rfl (.tmp 26) (.tmp 31) 44 rfl w.heap.size 3 (.int .i64 0) 1 8 Try.underlying44 info_cI rfl (by decide) (.slice oA n oc) n _ rfl (HO.out.alloc _) (wr.heap.size + 1) (some ⟨wr.heap.size, 0, none⟩) 1 1 [.int .i64 x] rfl (Lies.row (t := 3) (fr := (0, 0)) (heap_alloc_new wr _) (by simp)) rfl (by simp [Value.oneCell']) (by unfold maxLen; omega) (by omega) (by simp; omega) ?_); intro A2 c2 w2 h1 h2 _ _ _; have O2 : Hid (w2.ownsRow w.heap.size 3 1 (.slice A2 (n + 1) c2) (n + 1) ((cutTo xs k (i + 1)).map (Value.int .i64))) := Lib.hid (by rw [HC.out, List.map_append]; exact h1); have K2 : Hid (Keeps (fun b => w.heap.size ≤ b) w w2) := Lib.hid ((HK.out.alloc _).grown h2 (fun b hb _ => (HO.out.lt b hb).1)); clear h1 h2 hcx hc hsz)
        go_roundw
        case rel => exact ⟨i + 1, n + 1, A2, c2, by omega, by go_num, rfl, by omega, Lib.hid (by rw [HC.out, List.length_append, HN.out]; rfl), O2, K2⟩
        case measure => (simp [intOf] <;> omega)
    · obtain rfl : i = xs.length := by omega
      have hn1 : n = xs.length - 1 := by rw [HN.out, cutTo_length xs k _ (Nat.le_refl _), if_neg (by omega)]
      obtain ⟨g, off, rfl, hg, hc0⟩ := HX.out k _ (map_get xs k hk)
      have hc : wr.cell? ⟨g, off + k, none⟩ = some (.int .i64 xs[k]) := (HK.out.cell hg (by omega)).trans hc0
      have HC := Lib.hid (cutTo_all xs k hk)
      subst hn1
      clear hc0
      go_wp2_with fail
      go_quiet (fail)
      go_wp2_with fail
      go_ret3
      exact ⟨oA, oc, rfl, by rw [← HC.out]; exact HO.out, (HK.out.drewN _).mono (fun b hb e => absurd e (by omega))⟩
/-- What stands behind i rounds of the document's Put. -/
def putTo (xs : List Int) (k : Nat) (x : Int) (i : Nat) : List Int := if i ≤ k then xs.take i else xs.take k ++ x :: (xs.take i).drop k
theorem putTo_step (xs : List Int) (k i : Nat) (x : Int) (hi : i < xs.length) (hk : i ≠ k) : putTo xs k x (i + 1) = putTo xs k x i ++ [xs[i]] := by
  unfold putTo
  by_cases h : i < k
  · rw [if_pos (by omega), if_pos (by omega), List.take_succ_eq_append_getElem hi]
  · rw [if_neg (by omega), if_neg (by omega), List.take_succ_eq_append_getElem hi, List.drop_append_of_le_length (by simp; omega), List.append_assoc, List.cons_append]
theorem putTo_at (xs : List Int) (k : Nat) (x : Int) (hk : k < xs.length) : putTo xs k x (k + 1) = putTo xs k x k ++ [x] ++ [xs[k]] := by
  unfold putTo
  rw [if_neg (by omega), if_pos (Nat.le_refl _), List.take_succ_eq_append_getElem hk, List.drop_append_of_le_length (by simp; omega), List.drop_of_length_le (by simp; omega)]
  simp
theorem putTo_length (xs : List Int) (k : Nat) (x : Int) (i : Nat) (hi : i ≤ xs.length) (hk : k ≤ xs.length) : (putTo xs k x i).length = if i ≤ k then i else i + 1 := by
  unfold putTo; split <;> simp <;> omega
theorem putTo_all (xs : List Int) (k : Nat) (x : Int) (hk : k < xs.length) : putTo xs k x xs.length = xs.take k ++ x :: xs.drop k := by
  unfold putTo; rw [if_neg (by omega), List.take_length]
theorem putTo_end (xs : List Int) (x : Int) : putTo xs xs.length x xs.length ++ [x] = xs.take xs.length ++ x :: xs.drop xs.length := by
  unfold putTo; rw [if_pos (Nat.le_refl _)]; simp
set_option maxHeartbeats 1000000 in
theorem refPut_out (A : Option Addr) (n cap : Nat) (at_ : Int) (x : Value) (w : World) (h : at_ < 0 ∨ (n : Int) < at_) :
    Calls Try.prog 27 #[.slice A n cap, .int .i64 at_, x] w fun e w' => e = .returned (.tuple #[.slice none 0 0, .bool false]) ∧ w = w' := by
  by_cases h0 : at_ < 0
  · clear h
    go_enter Try.func27, Try.ntmps27
    go_wp2_with fail
    go_ret2
    exact ⟨rfl, rfl⟩
  · have h1 : (n : Int) < at_ := by omega
    clear h
    go_enter Try.func27, Try.ntmps27
    go_wp2_with fail
    go_ret2
    exact ⟨rfl, rfl⟩
set_option maxHeartbeats 4000000 in
theorem refPut_in (xs : List Int) (x : Int) (A : Option Addr) (cap k : Nat) (w : World) (hx : Lies w w.heap.size A (xs.map (Value.int .i64))) (hl : xs.length ≤ 900000000) (hk : k ≤ xs.length) :
    Calls Try.prog 27 #[.slice A xs.length cap, .int .i64 k, .int .i64 x] w fun e w' => ∃ A' c', e = .returned (.tuple #[.slice A' (xs.length + 1) c', .bool true]) ∧ w'.ownsRow w.heap.size 3 1 (.slice A' (xs.length + 1) c') (xs.length + 1) ((xs.take k ++ x :: xs.drop k).map (Value.int .i64)) ∧ Keeps (fun _ => False) w w' := by
  have HX := Lib.hid hx
  clear hx
  have hkI : ¬ ((xs.length : Int) < (k : Int)) := by omega
  have hnn : ¬ ((k : Int) < 0) := by omega
  go_enter Try.func27, Try.ntmps27
  go_wp2_with fail
  clear hnn hkI
  go_loopw [8, 9] (fun vo vi wr => ∃ (i n : Nat) (oA : Option Addr) (oc : Nat) (l : List Int), i ≤ xs.length + 1 ∧ vi = .int .i64 i ∧ vo = .slice oA n oc ∧ n ≤ i + 1 ∧ Hid (l = if i = xs.length + 1 then xs.take k ++ x :: xs.drop k else putTo xs k x i) ∧ Hid (n = l.length) ∧ Hid (wr.ownsRow w.heap.size 3 1 (.slice oA n oc) n (l.map (Value.int .i64))) ∧ Hid (Keeps (fun b => w.heap.size ≤ b) w wr)) (fun _ vi _ => xs.length + 1 - (intOf vi).toNat)
  case atStart => exact ⟨0, 0, none, 0, [], by omega, rfl, rfl, by omega, Lib.hid (by rw [if_neg (by omega)]; simp [putTo]), Lib.hid rfl, Lib.hid (World.ownsRow_nil _ _ _ _), Lib.hid (Keeps.refl _ _)⟩
  case round =>
    obtain ⟨i, n, oA, oc, l, hi, rfl, rfl, hn, HL, HN, HO, HK⟩ := hrel
    obtain ⟨wr, rfl⟩ : ∃ x, x = wr := ⟨_, rfl⟩
    by_cases hlt : i < xs.length
    · obtain ⟨g, off, rfl, hg, hc0⟩ := HX.out i _ (map_get xs i hlt)
      have HLi : Hid (l = putTo xs k x i) := Lib.hid (by rw [HL.out, if_neg (by omega)])
      have hsz := HK.out.size
      by_cases hik : i = k
      · have hik2 : ((i : Int) == (k : Int)) = true := by simp [hik]
        have HC : Hid (putTo xs k x (i + 1) = l ++ [x] ++ [xs[i]]) := Lib.hid (by subst hik; rw [putTo_at xs i x hlt, HLi.out])
        have hnk : n ≤ i := by rw [HN.out, HLi.out, putTo_length xs k x i (by omega) hk, if_pos (by omega)]; exact Nat.le_refl _
        clear hik HL HLi
        have HC0 := Lib.hid hc0
        clear hc0
        generalize xs[i] = y at *
        go_wp2_with (first
          | (at_builtin; (refine wpList_append_cells _ rfl (.tmp 27) (.tmp 29) 44 rfl w.heap.size 3 (.int .i64 0) 1 8 Try.underlying44 info_cI rfl (by decide) _ (n) _ rfl (HO.out.alloc _) (wr.heap.size + 1) (some ⟨wr.heap.size, 0, none⟩) 1 1 [.int .i64 x] rfl (Lies.row (t := 3) (fr := (0, 0)) (heap_alloc_new wr _) (by simp)) rfl (by simp [Value.oneCell']) (by unfold maxLen; omega) (by omega) (by simp; omega) ?_); intro A1 c1 w1 h1 h2 _ _ _; have O1 : Hid (w1.ownsRow w.heap.size 3 1 (.slice A1 (n + 1) c1) (n + 1) ((l ++ [x]).map (Value.int .i64))) := Lib.hid (by rw [List.map_append]; exact h1); have K1 : Hid (Keeps (fun b => w.heap.size ≤ b) w w1) := Lib.hid ((HK.out.alloc _).grown h2 (fun b hb _ => (HO.out.lt b hb).1)); have hc1 : w1.cell? ⟨g, off + i, none⟩ = some (.int .i64 y) := (K1.out.cell hg (by omega)).trans HC0.out; have hs1 : w.heap.size ≤ w1.heap.size := K1.out.size; clear h1 h2)
          | (at_builtin; (refine wpList_append_cells _ rfl (.tmp 35) (.tmp 40) 44 rfl w.heap.size 3 (.int .i64 0) 1 8 Try.underlying44 info_cI rfl (by decide) _ (n + 1) _ rfl (O1.out.alloc _) (w1.heap.size + 1) (some ⟨w1.heap.size, 0, none⟩) 1 1 [.int .i64 y] rfl (Lies.row (t := 3) (fr := (0, 0)) (heap_alloc_new w1 _) (by simp)) rfl (by simp [Value.oneCell']) (by unfold maxLen; omega) (by omega) (by simp; omega) ?_); intro A2 c2 w2 h1 h2 _ _ _; have O2 : Hid (w2.ownsRow w.heap.size 3 1 (.slice A2 (n + 1 + 1) c2) (n + 1 + 1) ((l ++ [x] ++ [y]).map (Value.int .i64))) := Lib.hid (by rw [List.map_append]; exact h1); have K2 : Hid (Keeps (fun b => w.heap.size ≤ b) w w2) := Lib.hid ((K1.out.alloc _).grown h2 (fun b hb _ => (O1.out.lt b hb).1)); have hs2 : w.heap.size ≤ w2.heap.size := K2.out.size; clear h1 h2))
        go_roundw
        case rel => exact ⟨i + 1, n + 1 + 1, A2, c2, _, by omega, by go_num, rfl, by omega, Lib.hid (by rw [if_neg (by omega), HC.out]), Lib.hid (by rw [List.length_append, List.length_append, HN.out]; rfl), O2, K2⟩
        case measure => (simp [intOf] <;> omega)
      · have hik2 : ((i : Int) == (k : Int)) = false := by rw [beq_eq_false_iff_ne]; omega
        have HC : Hid (putTo xs k x (i + 1) = l ++ [xs[i]]) := Lib.hid (by rw [putTo_step xs k i x hlt hik, HLi.out])
        clear hik HL HLi
        have hc : wr.cell? ⟨g, off + i, none⟩ = some (.int .i64 xs[i]) := (HK.out.cell hg (by omega)).trans hc0
        clear hc0
        generalize xs[i] = y at *
        go_wp2_with (at_builtin; (refine wpList_append_cells _ rfl (.tmp 35) (.tmp 40) 44 rfl w.heap.size 3 (.int .i64 0) 1 8 Try.underlying44 info_cI rfl (by decide) _ (n) _ rfl (HO.out.alloc _) (wr.heap.size + 1) (some ⟨wr.heap.size, 0, none⟩) 1 1 [.int .i64 y] rfl (Lies.row (t := 3) (fr := (0, 0)) (heap_alloc_new wr _) (by simp)) rfl (by simp [Value.oneCell']) (by unfold maxLen; omega) (by omega) (by simp; omega) ?_); intro A1 c1 w1 h1 h2 _ _ _; have O1 : Hid (w1.ownsRow w.heap.size 3 1 (.slice A1 (n + 1) c1) (n + 1) ((l ++ [y]).map (Value.int .i64))) := Lib.hid (by rw [List.map_append]; exact h1); have K1 : Hid (Keeps (fun b => w.heap.size ≤ b) w w1) := Lib.hid ((HK.out.alloc _).grown h2 (fun b hb _ => (HO.out.lt b hb).1)); have hs1 : w.heap.size ≤ w1.heap.size := K1.out.size; clear h1 h2)
        go_roundw
        case rel => exact ⟨i + 1, n + 1, A1, c1, _, by omega, by go_num, rfl, by omega, Lib.hid (by rw [if_neg (by omega), HC.out]), Lib.hid (by rw [List.length_append, HN.out]; rfl), O1, K1⟩
        case measure => (simp [intOf] <;> omega)
    · by_cases hend : i = xs.length + 1
      · subst hend
        have hl2 : l = xs.take k ++ x :: xs.drop k := by rw [HL.out, if_pos rfl]
        have hn2 : n = xs.length + 1 := by rw [HN.out, hl2]; simp; omega
        subst hn2
        have HL2 := Lib.hid hl2
        have hgt : ¬ ((xs.length : Int) + 1 ≤ (xs.length : Int)) := by omega
        clear hl2 HL HN
        go_wp2_with fail
        go_ret2
        exact ⟨oA, oc, rfl, by have h9 := HO.out; rw [HL2.out] at h9; simpa using h9, HK.out.mono (fun b hb e => absurd e (by omega))⟩
      · obtain rfl : i = xs.length := by omega
        have HLi : Hid (l = putTo xs k x xs.length) := Lib.hid (by rw [HL.out, if_neg (by omega)])
        have hsz := HK.out.size
        by_cases hik : xs.length = k
        · have hik2 : ((xs.length : Int) == (k : Int)) = true := by simp [hik]
          have HC : Hid (xs.take k ++ x :: xs.drop k = l ++ [x]) := Lib.hid (by subst hik; rw [← putTo_end, HLi.out])
          clear hik HL HLi hend
          go_wp2_with (at_builtin; (refine wpList_append_cells _ rfl (.tmp 27) (.tmp 29) 44 rfl w.heap.size 3 (.int .i64 0) 1 8 Try.underlying44 info_cI rfl (by decide) _ (n) _ rfl (HO.out.alloc _) (wr.heap.size + 1) (some ⟨wr.heap.size, 0, none⟩) 1 1 [.int .i64 x] rfl (Lies.row (t := 3) (fr := (0, 0)) (heap_alloc_new wr _) (by simp)) rfl (by simp [Value.oneCell']) (by unfold maxLen; omega) (by omega) (by simp; omega) ?_); intro A1 c1 w1 h1 h2 _ _ _; have O1 : Hid (w1.ownsRow w.heap.size 3 1 (.slice A1 (n + 1) c1) (n + 1) ((l ++ [x]).map (Value.int .i64))) := Lib.hid (by rw [List.map_append]; exact h1); have K1 : Hid (Keeps (fun b => w.heap.size ≤ b) w w1) := Lib.hid ((HK.out.alloc _).grown h2 (fun b hb _ => (HO.out.lt b hb).1)); have hs1 : w.heap.size ≤ w1.heap.size := K1.out.size; clear h1 h2)
          go_roundw
          case rel => exact ⟨xs.length + 1, n + 1, A1, c1, _, by omega, by go_num, rfl, by omega, Lib.hid (by rw [if_pos rfl, HC.out]), Lib.hid (by rw [List.length_append, HN.out]; rfl), O1, K1⟩
          case measure => (simp [intOf] <;> omega)
        · have hik2 : ((xs.length : Int) == (k : Int)) = false := by rw [beq_eq_false_iff_ne]; omega
          have HC : Hid (xs.take k ++ x :: xs.drop k = l) := Lib.hid (by rw [← putTo_all xs k x (by omega), HLi.out])
          clear hik HL HLi hend
          go_wp2_with fail
          go_roundw
          case rel => exact ⟨xs.length + 1, n, oA, oc, l, by omega, by go_num, rfl, by omega, Lib.hid (by rw [if_pos rfl, HC.out]), HN, HO, HK⟩
          case measure => (simp [intOf] <;> omega)
end Go.Proofs.Ytbfhbekocgdceaa
