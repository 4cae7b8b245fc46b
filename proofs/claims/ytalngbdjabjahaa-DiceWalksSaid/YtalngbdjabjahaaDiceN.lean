/-
  Dice that nobody made: the walks of the small functions. Conditions: none.
-/
import Derived.Test.YtalngbdjabjahaaDiceL
namespace Go.Proofs.Ytalngbdjabjahaa
open Go.RowKit
/-- Dice that nobody made: none, or such as lie there unmade. -/
def NoDice (w : World) (p : Option Addr) : Prop := p = none ∨ ∃ g, p = some ⟨g, 0, none⟩ ∧ Whole w g 57 #[.int .u64 0, .bool false]
theorem NoDice.keeps {S : Nat → Prop} {w w' : World} {p : Option Addr} (h : NoDice w p) (hk : Keeps S w w') (hn : ∀ k, k < w.heap.size → ¬ S k) : NoDice w' p := by
  rcases h with rfl | ⟨g, rfl, hg⟩
  · exact .inl rfl
  · exact .inr ⟨g, rfl, hg.keeps hk (hn g hg.inside)⟩
theorem none_no (p : Option Addr) (w : World) (h : NoDice w p) :
    Calls Try.prog 26 #[.pointer p] w fun e w' => e = .returned (.bool true) ∧ w = w' := by
  rcases h with rfl | ⟨g, rfl, hg⟩
  · go_enter Try.func26, Try.ntmps26
    go_wp2_with fail
    go_ret
    exact ⟨rfl, rfl⟩
  · have h1 : w.cell? ⟨g, 1, none⟩ = some (.bool false) := hg.cellAt 1
    go_enter Try.func26, Try.ntmps26
    go_wp2_with fail
    go_ret
    exact ⟨rfl, rfl⟩
theorem next_no (p : Option Addr) (w : World) (h : NoDice w p) :
    Calls Try.prog 19 #[.pointer p] w fun e w' => e = .returned (.int .u64 0) ∧ w = w' := by
  have H := Lib.hid h; clear h
  go_enter Try.func19, Try.ntmps19
  go_wp2_with fail
  refine (none_no p _ H.out).mono ?_
  rintro e w' ⟨rfl, rfl⟩
  go_wp2_with fail
  go_ret
  exact ⟨rfl, rfl⟩
theorem below_no (p : Option Addr) (n : Int) (w : World) (h : NoDice w p) :
    Calls Try.prog 20 #[.pointer p, .int .i64 n] w fun e w' => e = .returned (.int .i64 0) ∧ w = w' := by
  have H := Lib.hid h; clear h
  go_enter Try.func20, Try.ntmps20
  go_wp2_with fail
  refine (none_no p _ H.out).mono ?_
  rintro e w' ⟨rfl, rfl⟩
  go_wp2_with fail
  go_ret
  exact ⟨rfl, rfl⟩
theorem share_no (p : Option Addr) (w : World) (h : NoDice w p) :
    Calls Try.prog 21 #[.pointer p] w fun e w' => e = .returned (.float .f64 0) ∧ w = w' := by
  have H := Lib.hid h; clear h
  go_enter Try.func21, Try.ntmps21
  go_wp2_with fail
  refine (none_no p _ H.out).mono ?_
  rintro e w' ⟨rfl, rfl⟩
  go_wp2_with fail
  go_ret
  exact ⟨rfl, rfl⟩
theorem order_no (p : Option Addr) (n : Int) (w : World) (h : NoDice w p) :
    Calls Try.prog 18 #[.pointer p, .int .i64 n] w fun e w' => e = .returned (.slice none 0 0) ∧ Keeps (fun _ => False) w w' := by
  have H : Hid (NoDice (w.alloc (.cells #[.pointer p] 39)) p) := Lib.hid (h.keeps ((Keeps.refl (fun _ => False) w).alloc _) (fun _ _ h => h)); clear h
  go_enter Try.func18, Try.ntmps18
  go_wp2_with fail
  refine (none_no p _ H.out).mono ?_
  rintro e w' ⟨rfl, rfl⟩
  go_wp2_with fail
  go_ret
  exact ⟨rfl, (Keeps.refl _ _).alloc _⟩
theorem all_any (p : Option Addr) (w : World) :
    Calls Try.prog 22 #[.pointer p] w fun e w' => e = .returned (.func (.func 28) #[] #[.pointer (some ⟨w.heap.size, 0, none⟩)]) ∧ w.alloc (.cells #[.pointer p] 39) = w' := by
  have hmf : ∀ (fn : Fn) (first cap : Array Value) (w : World), (Instr.makeFunc fn first cap).run Try.prog w = .ok (.func fn first cap) w := fun _ _ _ _ => rfl
  go_enter Try.func22, Try.ntmps22
  go_wp2_with fail
  go_ret
  exact ⟨rfl, rfl⟩
end Go.Proofs.Ytalngbdjabjahaa
