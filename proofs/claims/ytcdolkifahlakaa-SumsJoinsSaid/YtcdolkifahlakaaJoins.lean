/-
  The walk of the law SumsJoins: it returns true for all a, b, n. Conditions: none.
-/
import Derived.Test.YtcdolkifahlakaaSumsE
namespace Go.Proofs.Ytcdolkifahlakaa
open Go.RowKit Crc

set_option maxHeartbeats 1000000 in
theorem sumsJoins_any (a b : W) (n : Int) (hlo : -9223372036854775808 ≤ n) (hhi : n ≤ 9223372036854775807) (w : World) :
    Calls Try.prog 7 #[.int .u32 (wn a), .int .u32 (wn b), .int .i64 n] w fun e w' => e = .returned (.bool true) ∧ Below w.heap.size w w' := by
  obtain ⟨r, hr1, hr2⟩ : ∃ r : W, (∀ w : World, Calls Try.prog 25 #[.int .u32 (wn a), .int .u32 (wn b), .int .i64 n] w fun e w' => e = .returned (.int .u32 (wn r)) ∧ w = w') ∧
      (∀ w : World, Calls Try.prog 26 #[.int .u32 (wn a), .int .u32 (wn b), .int .i64 n] w fun e w' => e = .returned (.int .u32 (wn r)) ∧ Below w.heap.size w w') := by
    rcases (show n < 0 ∨ 0 ≤ n by omega) with h | h
    · exact ⟨0#32, fun w => join_neg a b n h w, fun w => (refJoin_neg a b n h w).mono fun _ _ ⟨he, hw⟩ => ⟨he, hw ▸ Below.refl _ _⟩⟩
    · obtain ⟨N, rfl⟩ := Int.eq_ofNat_of_zero_le h
      exact ⟨join a b N, fun w => join_any a b N (by omega) w, fun w => refJoin_any a b N (by omega) w⟩
  have hz : Hid (∀ w : World, Calls Try.prog 25 #[.int .u32 (wn a), .int .u32 (wn b), .int .i64 0] w fun e w' => e = .returned (.int .u32 (wn (a ^^^ b))) ∧ w = w') := Lib.hid (fun w => by
    have := join_any a b 0 (by omega) w
    simpa [join, shn] using this)
  have hx := xor_nat a b
  have H1 := Lib.hid hr1; clear hr1
  have H2 := Lib.hid hr2; clear hr2
  go_enter Try.func7, Try.ntmps7
  go_wp2_with fail
  refine (H1.out w).mono ?_
  rintro e w' ⟨rfl, rfl⟩
  go_wp2_with fail
  refine (H2.out w).mono ?_
  rintro e w2 ⟨rfl, hb2⟩
  go_wp2_with fail
  refine (hz.out w2).mono ?_
  rintro e w' ⟨rfl, rfl⟩
  go_wp2_with fail
  refine (join_neg a b (-1) (by omega) w2).mono ?_
  rintro e w' ⟨rfl, rfl⟩
  have h0 : (wn 0#32 == 0) = true := by decide
  go_wp2_with fail
  refine (works_any w2).mono ?_
  rintro e w3 ⟨rfl, hb3⟩
  go_wp2
  go_ret
  exact ⟨rfl, belowThen' hb2 hb3⟩
end Go.Proofs.Ytcdolkifahlakaa
