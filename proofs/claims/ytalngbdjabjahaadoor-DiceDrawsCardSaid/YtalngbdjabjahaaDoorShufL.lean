/-
  Shuffle over an asker that has not been asked, whatever answers lie behind it. Conditions: Go's own limits.
-/
import Derived.Test.YtalngbdjabjahaaDoorShufA
namespace Go.Proofs.YtalngbdjabjahaaDoor
open Go.RowKit
theorem ask_shuffleL (a n cap : Nat) (F : Nat → Prop) (A : Option Addr) (L : List (Int × Bool)) (w : World) (hF : ∀ g, F g → g ≠ a ∧ g < w.heap.size) (hW : Whole w a 26 #[.slice A L.length cap, .slice none 0 0]) (hL : AnsLies w F A L) (hn : n ≤ 65536) :
    Calls Tryd.prog 5 #[.int .i64 n, .func (.func 6) #[.pointer (some ⟨a, 0, none⟩)] #[]] w fun e w' => ShPost (fun s w' => AskAt a (w.heap.size + 1) F A L cap s w') (fun b => b = a ∨ w.heap.size < b) n w (shuf (lans L) lnxt (n - 1) (rng n) []) e w' := by
  have ha := hW.inside
  refine shuffleA_any (lans L) lnxt (fun s w' => AskAt a (w.heap.size + 1) F A L cap s w') (fun b => b = a ∨ w.heap.size < b) n _ [] w hn (fun s i => s.length + i = n ∨ i ≤ 1) (Lib.hid (.inl (by simp))) (Lib.hid fun s i h => by
    rcases h with h | h
    · exact .inl (by simp [lnxt]; omega)
    · omega) ?_ ?_ ?_ _ (Lib.hid rfl)
  · intro s k w1 h2 hk hP hI hs
    refine (ask_any a (w.heap.size + 1) F A L cap s w1 k (fun g hg => ⟨(hF g hg).1, by have := (hF g hg).2; omega⟩) (by omega) hI (by omega)).mono ?_
    intro e w2 ⟨he, hI2, hK⟩
    exact ⟨he, hI2, hK.mono (fun b _ h => by omega)⟩
  · intro s w1 w2 hI hK
    exact hI.keeps hK (Nat.lt_succ_self _) (Nat.ne_of_lt ha) (fun b hb => Nat.ne_of_lt (hF b hb).2)
  · refine ⟨by simp, ?_, none, 0, ?_, World.ownsRow_nil _ _ _ _⟩
    · exact hL.keeps ((Keeps.refl (fun _ => False) w).alloc _) (fun _ _ h => h)
    · exact hW.alloc _
/-- How much was asked. -/
theorem shuf_asked (L : List (Int × Bool)) : ∀ (i : Nat) (l s : List Int), (shuf (lans L) lnxt i l s).2.length ≤ s.length + i
  | 0, l, s => Nat.le_refl _
  | i + 1, l, s => by
    cases h : okAns (lans L s (i + 2)) (i + 1) with
    | true =>
      rw [shuf_yes _ _ h]
      have := shuf_asked L i (swp l (i + 1) (lans L s (i + 2)).1.toNat) (lnxt s (i + 2))
      have hn : (lnxt s (i + 2)).length = s.length + 1 := by simp [lnxt]
      rw [hn] at this
      omega
    | false =>
      rw [shuf_no _ _ h]
      simp [lnxt]
theorem shuf_len (L : List (Int × Bool)) : ∀ (i : Nat) (l s r : List Int), (shuf (lans L) lnxt i l s).1 = some r → r.length = l.length
  | 0, l, s, r, h => by injection h with h; rw [← h]
  | i + 1, l, s, r, h => by
    cases h0 : okAns (lans L s (i + 2)) (i + 1) with
    | true =>
      rw [shuf_yes _ _ h0] at h
      have := shuf_len L i _ _ r h
      rw [swp_length] at this
      exact this
    | false => rw [shuf_no _ _ h0] at h; cases h
end Go.Proofs.YtalngbdjabjahaaDoor
