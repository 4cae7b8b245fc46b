/-
  The document's entries of a state: the walk. Conditions: lengths within 10 ^ 9.
-/
import Derived.Test.YtgbikcliembkcaaChA
namespace Go.Proofs.Ytgbikcliembkcaa
open Go.RowKit
set_option maxHeartbeats 1000000 in
theorem entries_any (s : St) (Ap Ac Az : Option Addr) (B cp cc cz : Nat) (w : World) (hx : StIn w B s Ap Ac Az) (hB : B ≤ w.heap.size) (hs : StSmall s) (hf : s.zones.flatten.length ≤ 1000000000) :
    Calls Try.prog 49 #[stV s Ap Ac Az cp cc cz] w fun e w' => ∃ A cap, e = .returned (.slice A s.zones.flatten.length cap) ∧ w'.ownsRow w.heap.size 3 1 (.slice A s.zones.flatten.length cap) s.zones.flatten.length (s.zones.flatten.map (Value.int .i64)) ∧ Keeps (fun _ => False) w w' := by
  unfold stV
  have HM := Lib.hid (Whole.made w 27 #[.slice Ap s.players.length cp, .slice Ac s.cards.length cc, .slice Az s.zones.length cz, .int .i32 s.turn, .int .i64 s.whose, .int .i8 s.fin, .int .i64 s.winner])
  have KK := Lib.hid ((Keeps.refl (fun _ => False) w).alloc (.cells #[.slice Ap s.players.length cp, .slice Ac s.cards.length cc, .slice Az s.zones.length cz, .int .i32 s.turn, .int .i64 s.whose, .int .i8 s.fin, .int .i64 s.winner] 27))
  have NN := Lib.hid (show w.heap.size + 1 ≤ (w.alloc (.cells #[.slice Ap s.players.length cp, .slice Ac s.cards.length cc, .slice Az s.zones.length cz, .int .i32 s.turn, .int .i64 s.whose, .int .i8 s.fin, .int .i64 s.winner] 27)).heap.size by simp)
  have hzl := hs.zones
  go_enter Try.func49, Try.ntmps49
  go_wp2_with fail
  generalize w.alloc (.cells #[.slice Ap s.players.length cp, .slice Ac s.cards.length cc, .slice Az s.zones.length cz, .int .i32 s.turn, .int .i64 s.whose, .int .i8 s.fin, .int .i64 s.winner] 27) = w0 at *
  go_loopw [3, 4] (fun vl vi wr => ∃ (i n c : Nat) (A : Option Addr), i ≤ s.zones.length ∧ vi = .int .i64 i ∧ vl = .slice A n c ∧ Hid (n = (s.zones.take i).flatten.length) ∧ Hid (wr.ownsRow (w.heap.size + 1) 3 1 (.slice A n c) n ((s.zones.take i).flatten.map (Value.int .i64))) ∧ Hid (Whole wr w.heap.size 27 #[.slice Ap s.players.length cp, .slice Ac s.cards.length cc, .slice Az s.zones.length cz, .int .i32 s.turn, .int .i64 s.whose, .int .i8 s.fin, .int .i64 s.winner]) ∧ Hid (Keeps (fun _ => False) w wr) ∧ Hid (w.heap.size + 1 ≤ wr.heap.size)) (fun _ vi _ => s.zones.length - (intOf vi).toNat)
  case atStart => exact ⟨0, 0, 0, none, by omega, rfl, rfl, Lib.hid (by simp), Lib.hid (by simpa using World.ownsRow_nil w0 _ _ _), HM, KK, NN⟩
  case round =>
    clear HM KK NN
    obtain ⟨i, n, c, A, hi, rfl, rfl, HN, HO, HM, HK, NN⟩ := hrel
    obtain ⟨a0, a1, a2, a3, a4, a5, a6, f0, f1, f2, f3, f4, f5, f6⟩ := seven HM.out
    by_cases hlt : i < s.zones.length
    · obtain ⟨g, off, Ai, ci, hAz, hg, hc0, hl0⟩ := hx.zones i s.zones[i] (List.getElem?_eq_getElem hlt)
      subst hAz
      have hc := (HK.out.cell (b := g) (o := off + i) (by omega) id).trans hc0
      have HL := Lib.hid (hl0.keeps HK.out (fun _ _ => id) hB)
      have HF := Lib.hid (flat_take_next s.zones i s.zones[i] (List.getElem?_eq_getElem hlt))
      have hb := flat_take_le s.zones (i + 1)
      rw [HF.out, List.length_append, ← HN.out] at hb
      generalize s.zones[i] = r at *
      clear hc0 hl0
      go_wp2_with (first
        | (at_builtin
           refine wpList_append_cells _ rfl _ _ 36 rfl (w.heap.size + 1) 3 (.int .i64 0) 1 8 Try.underlying36 info_int rfl (by decide) (.slice A n c) n ((s.zones.take i).flatten.map (Value.int .i64)) rfl HO.out B Ai r.length ci (r.map (Value.int .i64)) rfl HL.out (by simp) (cells_one_int r) (by simp only [maxLen]; omega) (by omega) NN.out ?_
           intro A2 c2 w2 hown hg2 _ _ _))
      have hgk : Keeps (fun b => (Value.slice A n c).ownBlock = some b) wr w2 := (Keeps.refl _ wr).grown hg2 (fun k hk _ => hk)
      refine ⟨⟨i + 1, n + r.length, c2, A2, by omega, by go_num, rfl, Lib.hid (by rw [HF.out, List.length_append, ← HN.out]), Lib.hid ?_, Lib.hid (HM.out.keeps hgk (fun e => by have := (HO.out.lt _ e).1; omega)), Lib.hid (HK.out.grown hg2 (fun k hk h0 => absurd (HO.out.lt k hk).1 (by omega))), Lib.hid (Nat.le_trans NN.out hgk.size)⟩, by simp [intOf]; omega⟩
      rw [HF.out, List.map_append]
      exact hown
    · obtain rfl : i = s.zones.length := by omega
      rw [List.take_length] at HN HO
      go_wp2_with fail
      go_ret
      have hn := HN.out
      subst hn
      exact ⟨A, c, rfl, HO.out.mono (by omega), HK.out⟩
end Go.Proofs.Ytgbikcliembkcaa
