/-
  image's reader of numbers: the walk. Conditions: lengths within 2 ^ 40; one, two or four bytes.
-/
import Derived.Test.YthmfbcfbcookiaaGreatDoorImMa
import Derived.Test.YthmfbcfbcookiaaGreatDoorBytes
import Derived.Test.YthmfbcfbcookiaaGreatDoorProg
import Derived.Deep.QuietTactic
import Derived.BigQuiet
import Derived.LoopN
import Derived.OwnWalk
import Derived.IntWalk
import Derived.Test.YthmfbcfbcookiaaGreatDoorWMh
namespace Go.Proofs.YthmfbcfbcookiaaGreatDoor
open Go.RowKit
/-- How a reader stands behind a reading: its place, and is there a fault. -/
def Rd.at_ {α : Type} : Rd α → Nat
  | .bad q => q
  | .ok _ j => j
def Rd.isBad {α : Type} : Rd α → Bool
  | .bad _ => true
  | .ok _ _ => false
def Rd.val {α : Type} (z : α) : Rd α → α
  | .bad _ => z
  | .ok a _ => a
/-- A reading that is left out behind a fault. -/
def Pr.from {α : Type} (p : Pr α) (b : List Oct) (i : Nat) (bad : Bool) : Rd α := if bad then .bad i else p b i
/-- The reader's block: the bytes, the place, the fault. -/
def rdC (A : Option Addr) (n cap i : Nat) (bad : Bool) : Array Value := #[.slice A n cap, .int .i64 i, .bool bad]
/-- A reader in memory: its block r, its bytes below B. -/
structure RdAt (w : World) (r : Nat) (B : Nat) (A : Option Addr) (cap : Nat) (b : List Oct) (i : Nat) (bad : Bool) : Prop where
  box : Whole w r 103 (rdC A b.length cap i bad)
  lies : Lies w B A (bytesV b)
  below : B ≤ r
  place : i ≤ b.length
  cap : b.length ≤ cap
section
variable {w w' : World} {r B cap i : Nat} {A : Option Addr} {b : List Oct} {bad : Bool}
theorem RdAt.drewN (h : RdAt w r B A cap b i bad) (n : Nat) : RdAt (w.drewN n) r B A cap b i bad := ⟨h.box, h.lies, h.below, h.place, h.cap⟩
theorem RdAt.drew (h : RdAt w r B A cap b i bad) : RdAt w.drew r B A cap b i bad := ⟨h.box, h.lies, h.below, h.place, h.cap⟩
theorem RdAt.keeps {S : Nat → Prop} (h : RdAt w r B A cap b i bad) (hk : Keeps S w w') (hr : ¬ S r) (hS : ∀ k, k < B → ¬ S k) : RdAt w' r B A cap b i bad :=
  ⟨h.box.keeps hk hr, h.lies.keep fun g o hg => hk.cell (by have := h.box.inside; have := h.below; omega) (hS g hg), h.below, h.place, h.cap⟩
theorem RdAt.setBad (h : RdAt w r B A cap b i bad) (c : Bool) : RdAt (w.setCell ⟨r, 2, none⟩ (.bool c)) r B A cap b i c :=
  ⟨h.box.put 2 _, h.lies.keep fun g _ hg => World.cell?_setCell_other _ _ _ _ (by intro e; injection e with e1; have := h.below; omega), h.below, h.place, h.cap⟩
theorem RdAt.setAt (h : RdAt w r B A cap b i bad) {j : Nat} (hj : j ≤ b.length) : RdAt (w.setCell ⟨r, 1, none⟩ (.int .i64 j)) r B A cap b j bad :=
  ⟨h.box.put 1 _, h.lies.keep fun g _ hg => World.cell?_setCell_other _ _ _ _ (by intro e; injection e with e1; have := h.below; omega), h.below, hj, h.cap⟩
end
set_option maxHeartbeats 2000000 in
theorem number_bad (n : Nat) (r B : Nat) (A : Option Addr) (cap i : Nat) (b : List Oct) (w : World) (h : RdAt w r B A cap b i true) :
    Calls Tryz.prog 80 #[.pointer (some ⟨r, 0, none⟩), .int .i64 n] w fun e w' => e = .returned (.int .i32 0) ∧ RdAt w' r B A cap b i true ∧ Keeps (fun k => k = r) w w' := by
  have c0 : w.cell? ⟨r, 0, none⟩ = some (.slice A b.length cap) := h.box.cellAt 0
  have c1 : w.cell? ⟨r, 1, none⟩ = some (.int .i64 i) := h.box.cellAt 1
  have c2 : w.cell? ⟨r, 2, none⟩ = some (.bool true) := h.box.cellAt 2
  have f2 := h.box.free 2
  have H := Lib.hid h
  clear h
  go_enter Tryz.func80, Tryz.ntmps80
  go_wp2_with fail
  go_quiet (fail)
  go_wp2_with fail
  go_ret
  exact ⟨rfl, (H.out.drewN _).setBad true, Keeps.setCell (S := fun k => k = r) ((Keeps.refl _ _).drewN _) (fun _ => rfl) _⟩
set_option maxHeartbeats 2000000 in
theorem number_cut (n : Nat) (r B : Nat) (A : Option Addr) (cap i : Nat) (b : List Oct) (w : World) (h : RdAt w r B A cap b i false) (_ : b.length ≤ 1099511627776) (hn : n ≤ 4) (hc : b.length < i + n) :
    Calls Tryz.prog 80 #[.pointer (some ⟨r, 0, none⟩), .int .i64 n] w fun e w' => e = .returned (.int .i32 0) ∧ RdAt w' r B A cap b i true ∧ Keeps (fun k => k = r) w w' := by
  have c0 : w.cell? ⟨r, 0, none⟩ = some (.slice A b.length cap) := h.box.cellAt 0
  have c1 : w.cell? ⟨r, 1, none⟩ = some (.int .i64 i) := h.box.cellAt 1
  have c2 : w.cell? ⟨r, 2, none⟩ = some (.bool false) := h.box.cellAt 2
  have f2 := h.box.free 2
  have hp := h.place
  have H := Lib.hid h
  clear h
  have hd : decide ((b.length : Int) - i < n) = true := decide_eq_true (by omega)
  have hw : IntKind.i64.wrap ((b.length : Int) - i) = (b.length : Int) - i := IntWalk.i64_in _ (by omega)
  go_enter Tryz.func80, Tryz.ntmps80
  go_wp2_with fail
  go_quiet (fail)
  go_wp2_with fail
  go_ret
  exact ⟨rfl, (H.out.drewN _).setBad true, Keeps.setCell (S := fun k => k = r) ((Keeps.refl _ _).drewN _) (fun _ => rfl) _⟩
theorem or_byte (x c : Nat) (hx : x < 16777216) (hc : c < 256) : bits .or .u32 ((x : Int) * 256) (c : Int) = ((256 * x + c : Nat) : Int) := by
  have e : (x : Int) * 256 = ((256 * x : Nat) : Int) := by omega
  rw [e, u32_or_nat _ _ (by omega) (by omega)]
  have h := Nat.two_pow_add_eq_or_of_lt (i := 8) (b := c) (by simpa using hc) x
  congr 1
  exact h.symm
theorem wrap32_sx (x : Nat) (h : x < 4294967296) : wrap32 (x : Int) = sx32 x := by
  unfold wrap32 sx32
  split <;> omega
set_option maxHeartbeats 2000000 in
theorem number_good (n : Nat) (r B : Nat) (A : Option Addr) (cap i : Nat) (b : List Oct) (w : World) (h : RdAt w r B A cap b i false) (hl : b.length ≤ 1099511627776) (hn0 : 1 ≤ n) (hn : n ≤ 4) (hc : i + n ≤ b.length) :
    Calls Tryz.prog 80 #[.pointer (some ⟨r, 0, none⟩), .int .i64 n] w fun e w' => e = .returned (.int .i32 (sx32 (val ((b.drop i).take n)))) ∧ RdAt w' r B A cap b (i + n) false ∧ Keeps (fun k => k = r) w w' := by
  obtain ⟨g, off, rfl, hg, _⟩ := h.lies i _ (bytesV_get b i (by omega))
  have c0 : w.cell? ⟨r, 0, none⟩ = some (.slice (some ⟨g, off, none⟩) b.length cap) := h.box.cellAt 0
  have c1 : w.cell? ⟨r, 1, none⟩ = some (.int .i64 i) := h.box.cellAt 1
  have c2 : w.cell? ⟨r, 2, none⟩ = some (.bool false) := h.box.cellAt 2
  have f1 := h.box.free 1
  have hp := h.place
  have H := Lib.hid h
  have hcap := h.cap
  have hci : ¬ cap = i := by omega
  clear h
  have hd : decide ((b.length : Int) - i < n) = false := decide_eq_false (by omega)
  have hw : IntKind.i64.wrap ((b.length : Int) - i) = (b.length : Int) - i := IntWalk.i64_in _ (by omega)
  have hmin : i + n - i = n := by omega
  go_enter Tryz.func80, Tryz.ntmps80
  go_wp2_with fail
  go_quiet (fail)
  go_wp2_with fail
  go_quiet (fail)
  rw [hmin]
  clear hd hw hmin hci
  go_wp2_with fail
  go_loop [5, 45] (fun vx vk => ∃ k : Nat, k ≤ n ∧ vk = .int .i64 k ∧ vx = .int .u32 (val ((b.drop i).take k) : Nat)) (fun _ vk => n - (intOf vk).toNat)
  case atStart => exact ⟨0, by omega, rfl, rfl⟩
  case round =>
    obtain ⟨k, hk, rfl, rfl⟩ := hrel
    by_cases hlt : k < n
    · have hkl : k < (b.drop i).length := by rw [List.length_drop]; omega
      obtain ⟨g', off', hA, _, hc⟩ := H.out.lies (i + k) _ (bytesV_get b (i + k) (by omega))
      injection hA with hA
      injection hA with e1 e2
      subst e1 e2
      have hts := take_snoc (b.drop i) k hkl
      rw [List.getElem_drop] at hts
      have hv := val_snoc ((b.drop i).take k) b[i + k]
      have hlt2 : val ((b.drop i).take k) < 16777216 := by
        have h1 := val_lt ((b.drop i).take k)
        rw [List.length_take, List.length_drop, Nat.min_eq_left (by omega)] at h1
        have h2 : 256 ^ k ≤ 256 ^ 3 := Nat.pow_le_pow_right (by decide) (by omega)
        omega
      obtain ⟨x, hx⟩ : ∃ x, x = val ((b.drop i).take k) := ⟨_, rfl⟩
      obtain ⟨c, hcx⟩ : ∃ c, c = b[i + k] := ⟨_, rfl⟩
      rw [← hts, ← hx, ← hcx] at hv
      have HV := Lib.hid hv
      rw [← hcx, ← Nat.add_assoc] at hc
      have hcl := c.isLt
      rw [← hx] at hlt2 ⊢
      clear hv hts hx hcx
      go_wp2_with fail
      refine ⟨⟨_, _, _, ⟨k + 1, by omega, rfl, rfl⟩, ?_, rfl, by go_num⟩, by simp [intOf]; omega⟩
      rw [or_byte x c.toNat (by omega) hcl, HV.out]
    · obtain rfl : k = n := by omega
      have hv4 : val ((b.drop i).take k) < 4294967296 := by
        have h1 := val_lt ((b.drop i).take k)
        rw [List.length_take, List.length_drop, Nat.min_eq_left (by omega)] at h1
        have h2 : 256 ^ k ≤ 256 ^ 4 := Nat.pow_le_pow_right (by decide) hn
        omega
      obtain ⟨x, hx⟩ : ∃ x, x = val ((b.drop i).take k) := ⟨_, rfl⟩
      rw [← hx] at hv4 ⊢
      have HX := Lib.hid hx
      clear hx
      go_wp2_with fail
      rw [wrap32_sx x hv4]
      go_ret
      have h2 := fun m => (H.out.drewN m).setAt (j := i + k) hc
      simp only [show ((i + k : Nat) : Int) = (i : Int) + k by omega] at h2
      refine ⟨congrArg (fun y : Int => Ending.returned (.int .i32 (sx32 y))) (show (x : Int) = _ by rw [HX.out]), h2 _, Keeps.setCell (S := fun k => k = r) (((Keeps.refl _ _).drewN _)) (fun _ => rfl) _⟩
/-- How number reads: at a reader with or without a fault. -/
theorem number_any (n : Nat) (r B : Nat) (A : Option Addr) (cap i : Nat) (b : List Oct) (bad : Bool) (w : World) (h : RdAt w r B A cap b i bad) (hl : b.length ≤ 1099511627776) (hn0 : 1 ≤ n) (hn : n ≤ 4) :
    Calls Tryz.prog 80 #[.pointer (some ⟨r, 0, none⟩), .int .i64 n] w fun e w' => e = .returned (.int .i32 (sx32 (((numP n).from b i bad).val 0))) ∧ RdAt w' r B A cap b ((numP n).from b i bad).at_ ((numP n).from b i bad).isBad ∧ Keeps (fun k => k = r) w w' := by
  cases bad
  · by_cases hc : i + n ≤ b.length
    · refine (number_good n r B A cap i b w h hl hn0 hn hc).mono ?_
      rintro e w' h
      simp only [Pr.from, numP, if_pos hc, Bool.false_eq_true, if_false, Rd.val, Rd.at_, Rd.isBad]
      exact h
    · refine (number_cut n r B A cap i b w h hl hn (by omega)).mono ?_
      rintro e w' h
      simp only [Pr.from, numP, if_neg hc, Bool.false_eq_true, if_false, Rd.val, Rd.at_, Rd.isBad]
      exact h
  · refine (number_bad n r B A cap i b w h).mono ?_
    rintro e w' h
    exact h
end Go.Proofs.YthmfbcfbcookiaaGreatDoor
/-
  image's reader of lists: the walk, for whatever is done at each thing. Conditions: none.
-/
namespace Go.Proofs.YthmfbcfbcookiaaGreatDoor
open Go.RowKit
set_option maxHeartbeats 2000000 in
theorem list_any (f : Nat) (caps : Array Value) (hent : ∀ args w, (callFunc f args).run Tryz.prog w = .ok (.enter f args) w) (m r : Nat) (Inv : Nat → World → Prop) (bd : Nat → Bool) (w : World) (hm : m ≤ 2147483647)
    (hb : ∀ k W, Inv k W → W.cell? ⟨r, 2, none⟩ = some (.bool (bd k)))
    (hone : ∀ k W, k < m → bd k = false → Inv k W → Calls Tryz.prog f caps W fun e w' => e = .returned (.tuple #[]) ∧ Inv (k + 1) w') (h0 : Inv 0 w) :
    Calls Tryz.prog 81 #[.pointer (some ⟨r, 0, none⟩), .int .i32 m, .func (.func f) #[] caps] w fun e w' => e = .returned (.tuple #[]) ∧ ∃ k, k ≤ m ∧ Inv k w' ∧ (k = m ∨ bd k = true) := by
  have HB := Lib.hid hb
  have HO := Lib.hid hone
  have H0 := Lib.hid h0
  clear hb hone h0
  go_enter Tryz.func81, Tryz.ntmps81
  go_wp2_with fail
  go_loopw [1] (fun vn wr => ∃ k : Nat, k ≤ m ∧ vn = .int .i32 ((m : Int) - k) ∧ Hid (Inv k wr)) (fun vn _ => (intOf vn).toNat)
  case atStart => exact ⟨0, by omega, by simp, H0⟩
  case round =>
    clear H0
    obtain ⟨k, hk, rfl, HI⟩ := hrel
    have hc := HB.out k _ HI.out
    by_cases hlt : k < m
    · cases hbd : bd k
      · rw [hbd] at hc
        have HC := HO.out k _ hlt hbd HI.out
        clear hbd
        have hd : decide (0 < (m : Int) - k) = true := decide_eq_true (by omega)
        go_wp2_with fail
        refine HC.mono ?_
        rintro e w2 ⟨rfl, hi2⟩
        have HI2 := Lib.hid hi2
        clear hi2 HC HI hc
        go_wp2_with fail
        go_roundw
        case rel => exact ⟨k + 1, by omega, by simp only [Value.int.injEq, true_and]; omega, HI2⟩
        case measure => simp [intOf]; omega
      · rw [hbd] at hc
        have HD := Lib.hid hbd
        clear hbd
        have hd : decide (0 < (m : Int) - k) = true := decide_eq_true (by omega)
        go_wp2_with fail
        go_end0
        exact ⟨rfl, k, hk, HI.out, Or.inr HD.out⟩
    · obtain rfl : k = m := by omega
      have hd : decide (0 < (k : Int) - k) = false := decide_eq_false (by omega)
      go_wp2_with fail
      go_end0
      exact ⟨rfl, k, hk, HI.out, Or.inl rfl⟩
end Go.Proofs.YthmfbcfbcookiaaGreatDoor
/-
  image's reader of a player: the walk. Conditions: lengths within 2 ^ 40.
-/
namespace Go.Proofs.YthmfbcfbcookiaaGreatDoor
open Go.RowKit
section
variable {α β : Type}
/-- Behind a reading the next one goes on where it stands. -/
theorem from_seq (z : α) (p : Pr α) (f : α → Pr β) (b : List Oct) (i : Nat) (bad : Bool) : (p.andThen f).from b i bad = (f ((p.from b i bad).val z)).from b (p.from b i bad).at_ (p.from b i bad).isBad := by
  cases bad
  · unfold Pr.from Pr.andThen
    simp only [Bool.false_eq_true, if_false]
    cases p b i <;> rfl
  · rfl
theorem from_map_at (p : Pr α) (f : α → β) (b : List Oct) (i : Nat) (bad : Bool) : ((p.map f).from b i bad).at_ = (p.from b i bad).at_ := by
  cases bad
  · unfold Pr.from Pr.map
    simp only [Bool.false_eq_true, if_false]
    cases p b i <;> rfl
  · rfl
theorem from_map_bad (p : Pr α) (f : α → β) (b : List Oct) (i : Nat) (bad : Bool) : ((p.map f).from b i bad).isBad = (p.from b i bad).isBad := by
  cases bad
  · unfold Pr.from Pr.map
    simp only [Bool.false_eq_true, if_false]
    cases p b i <;> rfl
  · rfl
theorem from_map_val (z : α) (p : Pr α) (f : α → β) (b : List Oct) (i : Nat) (bad : Bool) : ((p.map f).from b i bad).val (f z) = f ((p.from b i bad).val z) := by
  cases bad
  · unfold Pr.from Pr.map
    simp only [Bool.false_eq_true, if_false]
    cases p b i <;> rfl
  · rfl
end
theorem s32_at (b : List Oct) (i : Nat) (bad : Bool) : (s32P.from b i bad).at_ = ((numP 4).from b i bad).at_ := from_map_at _ _ _ _ _
theorem s32_bad (b : List Oct) (i : Nat) (bad : Bool) : (s32P.from b i bad).isBad = ((numP 4).from b i bad).isBad := from_map_bad _ _ _ _ _
theorem s32_val (b : List Oct) (i : Nat) (bad : Bool) : (s32P.from b i bad).val 0 = sx32 (((numP 4).from b i bad).val 0) := by
  have h := from_map_val 0 (numP 4) sx32 b i bad
  rw [show sx32 0 = 0 from rfl] at h
  exact h
/-- What a byte that says no or yes comes to. -/
theorem flag_of (b : List Oct) (i : Nat) (bad : Bool) : (∃ q, (numP 1).from b i bad = .bad q ∧ flagP.from b i bad = .bad q) ∨
    (∃ v, 0 ≤ v ∧ v < 256 ∧ (numP 1).from b i bad = .ok v (i + 1) ∧ i + 1 ≤ b.length ∧ flagP.from b i bad = if v = 0 then .ok false (i + 1) else if v = 1 then .ok true (i + 1) else .bad i) := by
  cases bad
  · unfold Pr.from flagP
    simp only [Bool.false_eq_true, if_false]
    cases e : numP 1 b i with
    | bad q => exact Or.inl ⟨q, rfl, rfl⟩
    | ok v j =>
      refine Or.inr ?_
      unfold numP at e
      split at e
      · rename_i hl
        injection e with e1 e2
        subst e1 e2
        have h1 := val_lt ((b.drop i).take 1)
        rw [List.length_take, List.length_drop, Nat.min_eq_left (by omega)] at h1
        exact ⟨_, by omega, by omega, rfl, hl, rfl⟩
      · cases e
  · exact Or.inl ⟨i, rfl, rfl⟩
theorem sx32_small {v : Int} (h : v < 2147483648) : sx32 v = v := if_pos h
theorem from_map {α β : Type} (p : Pr α) (f : α → β) (b : List Oct) (i : Nat) (bad : Bool) : (p.map f).from b i bad = match p.from b i bad with | .bad q => .bad q | .ok a j => .ok (f a) j := by
  cases bad <;> rfl
theorem size_pl : (Tryz.prog.info? 44).map (·.size) = some 3 := by kernel_rfl
theorem set3 {r z : Nat} {w w' : World} (hz : z = w.heap.size ∧ z ≠ r) (h : Keeps (fun k => k = r) w w') (a c d : Value) : Keeps (fun k => k = r) w (((w'.setCell ⟨z, 0, none⟩ a).setCell ⟨z, 1, none⟩ c).setCell ⟨z, 2, none⟩ d) := by
  have hh : ∀ k, (⟨z, k, none⟩ : Addr).block < w.heap.size → (⟨z, k, none⟩ : Addr).block = r := fun k h => absurd h (by show ¬ z < _; omega)
  exact ((h.setCell (p := ⟨z, 0, none⟩) (hh 0) a).setCell (p := ⟨z, 1, none⟩) (hh 1) c).setCell (p := ⟨z, 2, none⟩) (hh 2) d
theorem RdAt.setFar {w : World} {r B cap i g : Nat} {A : Option Addr} {b : List Oct} {bad : Bool} (h : RdAt w r B A cap b i bad) (hg : r < g) (k : Nat) (v : Value) : RdAt (w.setCell ⟨g, k, none⟩ v) r B A cap b i bad :=
  h.keeps (S := fun x => x = g) (Keeps.setCell (S := fun x => x = g) (Keeps.refl _ _) (fun _ => rfl) v) (by omega) (fun x hx e => by have := h.below; omega)
theorem RdAt.set3 {w : World} {r B cap i g : Nat} {A : Option Addr} {b : List Oct} {bad : Bool} (h : RdAt w r B A cap b i bad) (hg : r < g) (a c d : Value) : RdAt (((w.setCell ⟨g, 0, none⟩ a).setCell ⟨g, 1, none⟩ c).setCell ⟨g, 2, none⟩ d) r B A cap b i bad := ((h.setFar hg 0 a).setFar hg 1 c).setFar hg 2 d
set_option maxHeartbeats 2000000 in
theorem player_any (r B : Nat) (A : Option Addr) (cap i : Nat) (b : List Oct) (bad : Bool) (w : World) (h : RdAt w r B A cap b i bad) (hl : b.length ≤ 1099511627776) :
    Calls Tryz.prog 83 #[.pointer (some ⟨r, 0, none⟩)] w fun e w' => ∃ x : Pl, (∀ y j, playerP.from b i bad = .ok y j → x = y) ∧ e = .returned (.agg #[.int .i32 x.life, .int .i32 x.energy, .bool x.out]) ∧ RdAt w' r B A cap b (playerP.from b i bad).at_ (playerP.from b i bad).isBad ∧ Keeps (fun k => k = r) w w' := by
  have HN := fun w i bad (h : RdAt w r B A cap b i bad) (n : Nat) (h1 : 1 ≤ n) (h4 : n ≤ 4) => number_any n r B A cap i b bad w h hl h1 h4
  have H0 := Lib.hid (h.keeps ((Keeps.refl (fun _ => False) w).alloc (.cells #[.int .i32 0, .int .i32 0, .bool false] 44)) id (fun _ _ => id))
  have hr := h.box.inside
  clear h
  obtain ⟨v1, hv1⟩ : ∃ z, z = sx32 (((numP 4).from b i bad).val 0) := ⟨_, rfl⟩
  obtain ⟨i1, hi1⟩ : ∃ z, z = ((numP 4).from b i bad).at_ := ⟨_, rfl⟩
  obtain ⟨b1, hb1⟩ : ∃ z, z = ((numP 4).from b i bad).isBad := ⟨_, rfl⟩
  obtain ⟨v2, hv2⟩ : ∃ z, z = sx32 (((numP 4).from b i1 b1).val 0) := ⟨_, rfl⟩
  obtain ⟨i2, hi2⟩ : ∃ z, z = ((numP 4).from b i1 b1).at_ := ⟨_, rfl⟩
  obtain ⟨b2, hb2⟩ : ∃ z, z = ((numP 4).from b i1 b1).isBad := ⟨_, rfl⟩
  have HP : Hid (playerP.from b i bad = (flagP.map fun o => (⟨v1, v2, o⟩ : Pl)).from b i2 b2) := Lib.hid (by
    unfold playerP
    rw [from_seq 0, from_seq 0, s32_at, s32_bad, s32_val, s32_at, s32_bad, s32_val, ← hi1, ← hb1, ← hv1, ← hi2, ← hb2, ← hv2])
  have HN1 := HN (w.alloc (.cells #[.int .i32 0, .int .i32 0, .bool false] 44)) i bad H0.out 4 (by decide) (by decide)
  have HN2 := fun w h => HN w i1 b1 h 4 (by decide) (by decide)
  have HN3 := fun w h => HN w i2 b2 h 1 (by decide) (by decide)
  rw [← hi1, ← hb1, ← hv1] at HN1
  rw [← hi2, ← hb2, ← hv2] at HN2
  have HF := Lib.hid (flag_of b i2 b2)
  clear hi1 hb1 hv1 hi2 hb2 hv2 HN H0
  go_enter Tryz.func83, Tryz.ntmps83
  go_wp2_with fail
  refine HN1.mono ?_
  rintro e w1 ⟨rfl, h1, k1⟩
  have H1 := Lib.hid h1
  have K1 := Lib.hid (Keeps.and ((Keeps.refl (fun k => k = r) w).alloc (.cells #[.int .i32 0, .int .i32 0, .bool false] 44)) k1 (fun _ _ h => h))
  have R1 := Lib.hid ((Whole.made w 44 #[.int .i32 0, .int .i32 0, .bool false]).keeps k1 (by omega))
  clear h1 k1 HN1
  go_wp2_with fail
  refine (HN2 _ H1.out).mono ?_
  rintro e w2 ⟨rfl, h2, k2⟩
  have H2 := Lib.hid (h2.keeps ((Keeps.refl (fun _ => False) w2).alloc (.cells #[.int .i32 v1, .int .i32 v2, .bool false] 44)) id (fun _ _ => id))
  have K2 := Lib.hid ((K1.out.trans k2).alloc (.cells #[.int .i32 v1, .int .i32 v2, .bool false] 44))
  have R2 := Lib.hid ((R1.out.keeps k2 (by omega)).alloc (.cells #[.int .i32 v1, .int .i32 v2, .bool false] 44))
  have K1s : Hid (w.heap.size < w2.heap.size) := Lib.hid (by have h1 := R1.out.inside; have h2 := k2.size; omega)
  clear h2 k2 H1 K1 HN2 R1
  go_wp2_with fail
  refine (HN3 _ H2.out).mono ?_
  clear HN3
  rintro e w3 ⟨rfl, h3, k3⟩
  have H3 := Lib.hid h3
  have K3 := Lib.hid (K2.out.trans k3)
  have hz : w.heap.size < w2.heap.size := by have := K1s.out; omega
  have WR := Lib.hid ((R2.out).keeps k3 (by omega))
  have WP := Lib.hid ((Whole.made w2 44 #[.int .i32 v1, .int .i32 v2, .bool false]).keeps k3 (by omega))
  clear h3 k3 H2 K2 R2 K1s
  have g0 := WP.out.cellAt 0
  have g1 := WP.out.cellAt 1
  have g2 := WP.out.cellAt 2
  have q0 := WP.out.free 2
  have r0 := WR.out.cellAt 0
  have r1 := WR.out.cellAt 1
  have r2 := WR.out.cellAt 2
  have z0 := WR.out.free 0
  have z1 := WR.out.free 1
  have z2 := WR.out.free 2
  rcases HF.out with ⟨q, e1, e2⟩ | ⟨v, p0, p1, e1, hl1, e2⟩
  · rw [e1] at H3 ⊢
    have HP2 : Hid (playerP.from b i bad = .bad q) := Lib.hid (by rw [HP.out, from_map, e2])
    clear e1 e2 HF HP
    simp only [Rd.val]
    go_wp2_with fail
    have W := WR.out
    refine bodyPost_ret (results_cell (by rfl) _ w.heap.size (by rfl) #[.int .i32 v1, .int .i32 v2, .bool false] _ (((W.put 0 (.int .i32 v1)).put 1 (.int .i32 v2)).put 2 (.bool false)) _ Tryz.underlying44 rfl size_pl) rfl ⟨⟨v1, v2, false⟩, ?_, rfl, ?_, set3 ⟨rfl, by omega⟩ K3.out _ _ _⟩
    · intro y j e
      rw [HP2.out] at e
      cases e
    · rw [HP2.out]
      exact H3.out.set3 (by omega) _ _ _
  · rw [e1] at H3 ⊢
    simp only [Rd.at_, Rd.isBad] at H3
    rcases (show v = 0 ∨ v = 1 ∨ 2 ≤ v by omega) with hv0 | hv0 | hv0
    · subst hv0
      have HP2 : Hid (playerP.from b i bad = .ok ⟨v1, v2, false⟩ (i2 + 1)) := Lib.hid (by rw [HP.out, from_map, e2]; rfl)
      clear e1 e2 HF HP
      simp only [Rd.val, sx32_small (show (0 : Int) < 2147483648 by decide)]
      go_wp2_with fail
      have W := WR.out
      refine bodyPost_ret (results_cell (by rfl) _ w.heap.size (by rfl) #[.int .i32 v1, .int .i32 v2, .bool false] _ (((W.put 0 (.int .i32 v1)).put 1 (.int .i32 v2)).put 2 (.bool false)) _ Tryz.underlying44 rfl size_pl) rfl ⟨⟨v1, v2, false⟩, fun y j e => by rw [HP2.out] at e; injection e, rfl, ?_, set3 ⟨rfl, by omega⟩ K3.out _ _ _⟩
      rw [HP2.out]
      exact H3.out.set3 (by omega) _ _ _
    · subst hv0
      have HP2 : Hid (playerP.from b i bad = .ok ⟨v1, v2, true⟩ (i2 + 1)) := Lib.hid (by rw [HP.out, from_map, e2]; rfl)
      clear e1 e2 HF HP
      simp only [Rd.val, sx32_small (show (1 : Int) < 2147483648 by decide)]
      go_wp2_with fail
      have W := WR.out.putFar (p := ⟨w2.heap.size, 2, none⟩) (Nat.ne_of_lt hz) (.bool true)
      refine bodyPost_ret (results_cell (by rfl) _ w.heap.size (by rfl) #[.int .i32 v1, .int .i32 v2, .bool true] _ (((W.put 0 (.int .i32 v1)).put 1 (.int .i32 v2)).put 2 (.bool true)) _ Tryz.underlying44 rfl size_pl) rfl ⟨⟨v1, v2, true⟩, fun y j e => by rw [HP2.out] at e; injection e, rfl, ?_, set3 ⟨rfl, by omega⟩ (K3.out.setCell (p := ⟨w2.heap.size, 2, none⟩) (fun h => by have := hz; exact absurd h (by show ¬ w2.heap.size < w.heap.size; omega)) _) _ _ _⟩
      rw [HP2.out]
      exact (H3.out.setFar (g := w2.heap.size) (by omega) 2 _).set3 (by omega) _ _ _
    · have HP2 : Hid (playerP.from b i bad = .bad i2) := Lib.hid (by rw [HP.out, from_map, e2, if_neg (by omega), if_neg (by omega)])
      clear e1 e2 HF HP
      simp only [Rd.val, sx32_small (show v < 2147483648 by omega)]
      have c1 : w3.cell? ⟨r, 1, none⟩ = some (.int .i64 (i2 + 1 : Nat)) := H3.out.box.cellAt 1
      have c2 : w3.cell? ⟨r, 2, none⟩ = some (.bool false) := H3.out.box.cellAt 2
      have y1 := H3.out.box.free 1
      have y2 := H3.out.box.free 2
      have n0 : (v == 0) = false := by simpa using (show v ≠ 0 by omega)
      have n1 : (v == 1) = false := by simpa using (show v ≠ 1 by omega)
      go_wp2_with fail
      have W := (WR.out.putFar (p := ⟨r, 1, none⟩) (show w.heap.size ≠ r by omega) (.int .i64 i2)).putFar (p := ⟨r, 2, none⟩) (show w.heap.size ≠ r by omega) (.bool true)
      refine bodyPost_ret (results_cell (by rfl) _ w.heap.size (by rfl) #[.int .i32 v1, .int .i32 v2, .bool false] _ (((W.put 0 (.int .i32 v1)).put 1 (.int .i32 v2)).put 2 (.bool false)) _ Tryz.underlying44 rfl size_pl) rfl ⟨⟨v1, v2, false⟩, ?_, rfl, ?_, set3 ⟨rfl, by omega⟩ ((K3.out.setCell (p := ⟨r, 1, none⟩) (fun _ => rfl) _).setCell (p := ⟨r, 2, none⟩) (fun _ => rfl) _) _ _ _⟩
      · intro y j e
        rw [HP2.out] at e
        cases e
      rw [HP2.out]
      exact ((H3.out.setAt (j := i2) (by omega)).setBad true).set3 (by omega) _ _ _
end Go.Proofs.YthmfbcfbcookiaaGreatDoor
