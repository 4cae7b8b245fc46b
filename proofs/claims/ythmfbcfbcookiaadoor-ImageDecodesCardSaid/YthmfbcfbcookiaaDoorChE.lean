/-
  The document's Check, May, Where and the program's Where: the walks. Conditions: lengths within 10 ^ 9.
-/
import Derived.Test.YthmfbcfbcookiaaDoorWMf
namespace Go.Proofs.YthmfbcfbcookiaaDoor
open Go.RowKit
theorem bools_get (l : List Bool) (i : Nat) (h : i < l.length) : (bools l)[i]? = some (.bool l[i]) := by simp [bools, h]
set_option maxHeartbeats 1000000 in
theorem refCheck_any (s : St) (Ap Ac Az : Option Addr) (B cp cc cz : Nat) (w : World) (hx : StIn w B s Ap Ac Az) (hB : B ≤ w.heap.size) (hs : StSmall s) (hf : s.zones.flatten.length ≤ 1000000000) :
    Calls Tryd.prog 41 #[stV s Ap Ac Az cp cc cz] w fun e w' => e = .returned (.tuple #[.int .i64 (checkP s).1, .int .i64 (checkP s).2]) ∧ Keeps (fun _ => False) w w' := by
  have HC := fun w (hx : StIn w B s Ap Ac Az) (hB : B ≤ w.heap.size) => things_any s Ap Ac Az B cp cc cz w hx hB hs hf
  unfold stV at *
  have hx1 := hx.keeps ((Keeps.refl (fun _ => False) w).alloc (.cells #[.slice Ap s.players.length cp, .slice Ac s.cards.length cc, .slice Az s.zones.length cz, .int .i32 s.turn, .int .i64 s.whose, .int .i8 s.fin, .int .i64 s.winner] 27)) (fun _ _ => id) hB
  have HC1 := HC _ hx1 (Nat.le_trans hB (by simp))
  have K0 := Lib.hid ((Keeps.refl (fun _ => False) w).alloc (.cells #[.slice Ap s.players.length cp, .slice Ac s.cards.length cc, .slice Az s.zones.length cz, .int .i32 s.turn, .int .i64 s.whose, .int .i8 s.fin, .int .i64 s.winner] 27))
  have HD : Hid (checkP s = answer (firstF (thingsB s))) := Lib.hid rfl
  generalize thingsB s = l at *
  clear HC hx1 hx
  go_enter Tryd.func41, Tryd.ntmps41
  go_wp2_with fail
  refine HC1.mono ?_
  rintro e w1 ⟨A, cap, rfl, hown, hk⟩
  clear HC1
  have HO := Lib.hid hown
  have HK := Lib.hid (K0.out.trans hk)
  clear hown hk K0
  have hll : l.length ≤ 9223372036854775807 := by
    rcases HO.out.2 with ⟨_, h⟩ | ⟨_, _, _, _, _, _, h1, h2, _⟩
    · omega
    · unfold maxLen at h2; omega
  go_wp2_with fail
  go_loopw [5] (fun vi wr => ∃ (i : Nat), i ≤ l.length ∧ vi = .int .i64 i ∧ Hid (∀ b ∈ l.take i, b = true) ∧ wr = w1) (fun vi _ => l.length - (intOf vi).toNat)
  case atStart => exact ⟨0, by omega, rfl, Lib.hid (by simp), rfl⟩
  case round =>
    obtain ⟨i, hi, rfl, HA, rfl⟩ := hrel
    by_cases hlt : i < l.length
    · obtain ⟨g, off, rfl, hg, hc⟩ := own_lies_n HO.out i _ (bools_get l i hlt)
      have HN : Hid (l[i] = true → ∀ b ∈ l.take (i + 1), b = true) := Lib.hid (fun h b hb => by
        rw [List.take_succ_eq_append_getElem hlt] at hb
        rcases List.mem_append.1 hb with h1 | h1
        · exact HA.out b h1
        · rw [List.mem_singleton.1 h1]; exact h)
      have HB : Hid (l[i] = false → checkP s = (10, (i : Int))) := Lib.hid (fun h => by
        rw [HD.out]
        conv => lhs; rw [take_split hlt, h]
        rw [firstF_bad _ _ HA.out, List.length_take, Nat.min_eq_left hi]; rfl)
      generalize l[i] = b at *
      cases b
      · have HB' := Lib.hid (HB.out rfl)
        clear HB HN
        go_wp2_with fail
        go_ret2
        exact ⟨by rw [HB'.out]; rfl, HK.out⟩
      · have HN' := Lib.hid (HN.out rfl)
        clear HB HN
        go_wp2_with fail
        go_roundw
        case rel => exact ⟨i + 1, by omega, by go_num, HN', trivial⟩
        case measure => simp [intOf]; omega
    · obtain rfl : i = l.length := by omega
      have HE : Hid (checkP s = (0, 0)) := Lib.hid (by
        have h := HA.out
        rw [List.take_length] at h
        have := firstF_true l [] h
        rw [HD.out]
        rw [List.append_nil] at this
        rw [this]; rfl)
      clear HA
      go_wp2_with fail
      go_ret2
      exact ⟨by rw [HE.out]; rfl, HK.out⟩
end Go.Proofs.YthmfbcfbcookiaaDoor
