/-
  DiceEach: the walks of isOrder and equal. Conditions: none.
-/
import Derived.Test.YtalngbdjabjahaaEachP
import Derived.Test.YtalngbdjabjahaaEqInts
namespace Go.Proofs.Ytalngbdjabjahaa
open Go.RowKit
def seenRow (n : Nat) (xs : List Int) : Array Value := full n (fun v => .bool (decide ((v : Int) ∈ xs)))
theorem made_seen (n : Nat) : madeCells #[.bool false] n = seenRow n [] := by
  rw [fillTo_zero n (fun _ => .bool false) (.bool false)]
  unfold fillTo seenRow full
  simp
theorem seen_put (n : Nat) (xs : List Int) (v : Nat) : (seenRow n xs).setIfInBounds v (.bool true) = seenRow n (xs ++ [(v : Int)]) := by
  unfold seenRow
  rw [full_put]
  refine full_congr fun i _ => ?_
  by_cases e : i = v
  · subst e; simp
  · rw [if_neg e]
    have : ((i : Int) ∈ xs ++ [(v : Int)]) ↔ ((i : Int) ∈ xs) := by simp; omega
    simp [this]
theorem seen_at (n : Nat) (xs : List Int) (v : Nat) (h : v < n) : (seenRow n xs)[v]? = some (.bool (decide ((v : Int) ∈ xs))) := full_get n _ v h
theorem info_bool : (Try.prog.info? 4).map (fun i => (i.zero, i.size, i.bytes)) = some (some (.bool false), 1, 1) := by kernel_rfl
theorem take_nodup_mem {l : List Int} {k : Nat} (h : k < l.length) (hm : l[k] ∈ l.take k) : ¬ l.Nodup := fun hn => by
  obtain ⟨j, hj, e⟩ := List.getElem_of_mem hm
  rw [List.getElem_take] at e
  have := (List.getElem_inj hn).1 e
  simp at hj
  omega
set_option maxHeartbeats 1000000 in
theorem isOrder_any (l : List Int) (b : Bool) (hb : b = true ↔ IsOrd l) (A : Option Addr) (B cap : Nat) (w : World) (hl : Lies w B A (l.map (Value.int .i64))) (hB : B ≤ w.heap.size) (hm : l.length ≤ 140737488351232) :
    Calls Try.prog 12 #[.slice A l.length cap] w fun e w' => e = .returned (.bool b) ∧ Keeps (fun _ => False) w w' := by
  have hmk : ∀ w : World, (Instr.makeSlice 60 (.int .i64 (l.length : Int)) (.int .i64 (l.length : Int))).run Try.prog w = .ok (.slice (some ⟨w.heap.size, 0, none⟩) l.length l.length) (w.alloc (.cells (madeCells #[.bool false] l.length) 4)) := fun w => run_make_row' 60 4 (.bool false) 1 Try.underlying60 info_bool rfl .i64 .i64 l.length (by omega) (by omega) w
  have HL := Lib.hid hl; have HBB := Lib.hid hb
  clear hl hb
  go_enter Try.func12, Try.ntmps12
  go_wp2_with fail
  rw [made_seen]
  clear hmk
  go_loopw [4] (fun vi wr => ∃ k : Nat, k ≤ l.length ∧ vi = .int .i64 k ∧ Hid ((∀ x ∈ l.take k, 0 ≤ x ∧ x < (l.length : Int)) ∧ (l.take k).Nodup) ∧ Hid (Whole wr w.heap.size 4 (seenRow l.length (l.take k))) ∧ Hid (Keeps (fun _ => False) w wr)) (fun vi _ => l.length - (intOf vi).toNat)
  case atStart => exact ⟨0, by omega, rfl, Lib.hid ⟨by simp, by simp⟩, Lib.hid (Whole.made _ _ _), Lib.hid ((Keeps.refl _ _).alloc _)⟩
  case round =>
    obtain ⟨k, hk, rfl, HT, HW, HK⟩ := hrel
    by_cases hlt : k < l.length
    · obtain ⟨g, off, rfl, hg, hc0⟩ := HL.out k _ (map_get l k hlt)
      have hc : wr.cell? ⟨g, off + k, none⟩ = some (.int .i64 l[k]) := (HK.out.cell (by omega) (fun h => h)).trans hc0
      clear hc0
      by_cases h0 : l[k] < 0
      · have hbf : Hid (b = false) := Lib.hid (by
          cases b with
          | false => rfl
          | true => exact absurd ((HBB.out.1 rfl).1 l[k] (List.getElem_mem hlt)).1 (by omega))
        generalize l[k] = x at *
        go_wp2_with fail
        go_ret
        exact ⟨by rw [hbf.out]; rfl, HK.out⟩
      · by_cases h1 : (l.length : Int) ≤ l[k]
        · have hbf : Hid (b = false) := Lib.hid (by
            cases b with
            | false => rfl
            | true => exact absurd ((HBB.out.1 rfl).1 l[k] (List.getElem_mem hlt)).2 (by omega))
          generalize l[k] = x at *
          go_wp2_with fail
          go_ret
          exact ⟨by rw [hbf.out]; rfl, HK.out⟩
        · have HM : Hid (l[k] ∈ l.take k → b = false) := Lib.hid fun hm => by
            cases b with
            | false => rfl
            | true => exact absurd (HBB.out.1 rfl).2 (take_nodup_mem hlt hm)
          have HN : Hid (l[k] ∉ l.take k → (∀ x ∈ l.take (k + 1), 0 ≤ x ∧ x < (l.length : Int)) ∧ (l.take (k + 1)).Nodup) := Lib.hid fun hm => by
            rw [List.take_succ_eq_append_getElem hlt]
            refine ⟨fun x hx => ?_, ?_⟩
            · rcases List.mem_append.1 hx with hx | hx
              · exact HT.out.1 x hx
              · have e : x = l[k] := by simpa using hx
                omega
            · rw [List.nodup_append]
              exact ⟨HT.out.2, by simp, fun a ha c hc e => by
                have e2 : c = l[k] := by simpa using hc
                subst e2; subst e; exact hm ha⟩
          have HP : Hid (l.take (k + 1) = l.take k ++ [l[k]]) := Lib.hid (List.take_succ_eq_append_getElem hlt)
          generalize l[k] = x at *
          obtain ⟨v, rfl⟩ := Int.eq_ofNat_of_zero_le (show 0 ≤ x by omega)
          have hs : wr.cell? ⟨w.heap.size, v, none⟩ = some (.bool (decide ((v : Int) ∈ l.take k))) := (HW.out.cellAt v).trans (seen_at _ _ v (by omega))
          have hf := HW.out.free v
          by_cases hmem : (v : Int) ∈ l.take k
          · rw [decide_eq_true hmem] at hs
            have hbf := Lib.hid (HM.out hmem)
            clear hmem
            go_wp2_with fail
            go_ret
            exact ⟨by rw [hbf.out]; rfl, HK.out⟩
          · rw [decide_eq_false hmem] at hs
            have HN' := Lib.hid (HN.out hmem)
            clear hmem
            go_wp2_with fail
            go_roundw
            case rel => exact ⟨k + 1, by omega, by go_num, HN', Lib.hid (by rw [HP.out, ← seen_put]; exact HW.out.put v _), Lib.hid (HK.out.setCell (fun h => absurd h (Nat.lt_irrefl _)) _)⟩
            case measure => simp [intOf]; omega
    · obtain rfl : k = l.length := by omega
      have hbt : Hid (b = true) := Lib.hid (HBB.out.2 (by have := HT.out; rw [List.take_length] at this; exact this))
      go_wp2_with fail
      go_ret
      exact ⟨by rw [hbt.out]; rfl, HK.out⟩
set_option maxHeartbeats 400000 in
theorem equal_any (x y : List Int) (A A' : Option Addr) (B B' cap cap' : Nat) (w : World) (hx : Lies w B A (x.map (Value.int .i64))) (hy : Lies w B' A' (y.map (Value.int .i64))) (hm : x.length ≤ 9223372036854775807) :
    Calls Try.prog 16 #[.slice A x.length cap, .slice A' y.length cap'] w fun e w' => e = .returned (.bool (decide (x = y))) ∧ ∃ n, w' = w.drewN n := by
  by_cases hlen : x.length = y.length
  · go_enter Try.func16, Try.ntmps16
    go_wp2
    go_loopw [5] (fun i wr => ∃ k d : Nat, k ≤ x.length ∧ i = .int .i64 k ∧ x.take k = y.take k ∧ wr = w.drewN d) (fun i _ => x.length - (intOf i).toNat)
    case atStart => exact ⟨0, 0, by omega, rfl, rfl, rfl⟩
    case round =>
      obtain ⟨k, d, hk, rfl, heq, rfl⟩ := hrel
      have HE := Lib.hid heq; clear heq
      by_cases hlt : k < x.length
      · have hlt' : k < y.length := by omega
        obtain ⟨g, off, rfl, _, hc⟩ := hx k _ (map_get x k hlt)
        obtain ⟨g', off', rfl, _, hc'⟩ := hy k _ (map_get y k hlt')
        by_cases hxy : x[k] = y[k]
        · have hs : Hid (x.take (k + 1) = y.take (k + 1)) := Lib.hid (by rw [List.take_succ_eq_append_getElem hlt, List.take_succ_eq_append_getElem hlt', HE.out, hxy])
          have ht : ((x[k] : Int) != y[k]) = false := by rw [hxy]; simp
          have HL := Lib.hid hlen; clear hlen hxy
          go_wp2_with fail
          go_quiet (fail)
          go_wp2
          go_roundw
          case rel => exact ⟨k + 1, _, by omega, by go_num, hs.out, rfl⟩
          case measure => simp [intOf]; omega
        · have ht : ((x[k] : Int) != y[k]) = true := by
            rw [bne_iff_ne]; exact hxy
          have hne : x ≠ y := fun e => hxy (by subst e; rfl)
          go_wp2_with fail
          go_quiet (fail)
          go_wp2
          go_ret
          exact ⟨by simp [hne], _, World.drewN_drewN _ _ _⟩
      · obtain rfl : k = x.length := by omega
        have he : x = y := by have := HE.out; rw [List.take_length, hlen, List.take_length] at this; exact this
        have HF := Lib.hid he; clear he
        go_wp2
        go_ret
        exact ⟨by simp [HF.out], _, rfl⟩
  · have hne : x ≠ y := fun e => hlen (by rw [e])
    go_enter Try.func16, Try.ntmps16
    go_wp2
    go_ret
    exact ⟨by simp [hne], 0, rfl⟩
end Go.Proofs.Ytalngbdjabjahaa
