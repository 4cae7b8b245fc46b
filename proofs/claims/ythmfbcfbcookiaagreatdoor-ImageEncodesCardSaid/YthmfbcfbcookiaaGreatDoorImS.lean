/-
  image.Sum: the walk. Conditions: lengths within 10 ^ 9; a turn of 32 bits.
-/
import Derived.Test.YthmfbcfbcookiaaGreatDoorImE
import Derived.Test.YthmfbcfbcookiaaGreatDoorSuM
namespace Go.Proofs.YthmfbcfbcookiaaGreatDoor
open Go.RowKit
set_option maxHeartbeats 2000000 in
theorem imSum_no (s : St) (Ap Ac Az : Option Addr) (B cp cc cz : Nat) (w : World) (hx : StIn w B s Ap Ac Az) (hB : B ≤ w.heap.size) (hs : StSmall s) (hc : (checkP s).1 = 10) :
    Calls Tryz.prog 8 #[stV s Ap Ac Az cp cc cz] w fun e w' => e = .returned (.tuple #[.int .u32 0, .int .i64 10]) ∧ Keeps (fun _ => False) w w' := by
  have k0 : Keeps (fun _ => False) w (w.alloc (.cells #[.slice Ap s.players.length cp, .slice Ac s.cards.length cc, .slice Az s.zones.length cz, .int .i32 s.turn, .int .i64 s.whose, .int .i8 s.fin, .int .i64 s.winner] 27)) := (Keeps.refl _ _).alloc _
  have HC := encode_no s Ap Ac Az B cp cc cz _ (hx.keeps k0 (fun _ _ => id)) (Nat.le_trans hB k0.size) hs hc
  unfold stV at *
  clear hc hx hB hs
  go_enter Tryz.func8, Tryz.ntmps8
  go_wp2_with fail
  refine HC.mono ?_
  rintro e w1 ⟨rfl, k1⟩
  go_wp2_with fail
  go_ret2
  exact ⟨rfl, k0.trans k1⟩
set_option maxHeartbeats 2000000 in
theorem imSum_yes (s : St) (Ap Ac Az : Option Addr) (B cp cc cz : Nat) (w : World) (hx : StIn w B s Ap Ac Az) (hB : B ≤ w.heap.size) (hs : StSmall s) (hc : (checkP s).1 = 0) (ht : in32 s.turn) :
    Calls Tryz.prog 8 #[stV s Ap Ac Az cp cc cz] w fun e w' => e = .returned (.tuple #[.int .u32 (wn (Crc.crc (img s))), .int .i64 0]) ∧ Keeps (fun _ => False) w w' := by
  have k0 : Keeps (fun _ => False) w (w.alloc (.cells #[.slice Ap s.players.length cp, .slice Ac s.cards.length cc, .slice Az s.zones.length cz, .int .i32 s.turn, .int .i64 s.whose, .int .i8 s.fin, .int .i64 s.winner] 27)) := (Keeps.refl _ _).alloc _
  have HC := encode_yes s Ap Ac Az B cp cc cz _ (hx.keeps k0 (fun _ _ => id)) (Nat.le_trans hB k0.size) hs hc ht
  have hl := ((mayI hc).few).img
  unfold stV at *
  clear hc hx hB hs ht
  go_enter Tryz.func8, Tryz.ntmps8
  go_wp2_with fail
  refine HC.mono ?_
  rintro e w1 ⟨A, cap, rfl, own, k1⟩
  have HX := crc_any (img s) A w1.heap.size cap w1 (own_lies own) (Nat.le_refl _) (by omega)
  clear own HC
  go_wp2_with fail
  refine HX.mono ?_
  rintro e w2 ⟨rfl, k2⟩
  go_wp2_with fail
  go_ret2
  exact ⟨rfl, (k0.trans k1).trans (keepsAll k2)⟩
end Go.Proofs.YthmfbcfbcookiaaGreatDoor
