/-
  Copies of lists of numbers, players, cards: the walks. Conditions: lengths within 10 ^ 9.
-/
import Derived.Test.YthmfbcfbcookiaaGreatDoorWMd
import Derived.Test.YthmfbcfbcookiaaGreatDoorAppendN
import Derived.Test.YthmfbcfbcookiaaGreatDoorBagP
import Derived.Test.YthmfbcfbcookiaaGreatDoorRowW
import Derived.Deep.Onto
namespace Go.Proofs.YthmfbcfbcookiaaGreatDoor
open Go.RowKit
theorem FLies.lies {α : Type} {f : α → List Value} {k : Nat} {w : World} {B : Nat} {A : Option Addr} {xs : List α} (hf : ∀ a, (f a).length = k) (hk : 0 < k) (h : FLies f k w B A xs) : Lies w B A (flat f xs) := fun j u hu => by
  have hj : j < xs.length * k := by rw [← flat_length hf]; exact (List.getElem?_eq_some_iff.1 hu).1
  have hi : j / k < xs.length := Nat.div_lt_of_lt_mul (by rw [Nat.mul_comm]; exact hj)
  obtain ⟨g, off, e, hg, hc⟩ := h (j / k) _ (List.getElem?_eq_getElem hi)
  have hm := Nat.mod_lt j hk
  have e1 := flat_get hf xs (j / k) _ (List.getElem?_eq_getElem hi) (j % k) hm
  have e2 : j / k * k + j % k = j := by rw [Nat.mul_comm]; exact Nat.div_add_mod j k
  rw [e2, hu] at e1
  have e3 := hc (j % k) hm
  rw [Nat.add_assoc, e2, ← e1] at e3
  exact ⟨g, off, e, hg, e3⟩
theorem Lies.flies {α : Type} {f : α → List Value} {k : Nat} {w : World} {B : Nat} {A : Option Addr} {xs : List α} (hf : ∀ a, (f a).length = k) (hk : 0 < k) (h : Lies w B A (flat f xs)) : FLies f k w B A xs := fun i c hi => by
  have hg := fun j hj => flat_get hf xs i c hi j hj
  have h0 := hg 0 hk
  obtain ⟨u, hu⟩ : ∃ u, (f c)[0]? = some u := ⟨_, List.getElem?_eq_getElem (by rw [hf]; exact hk)⟩
  obtain ⟨g, off, e, hb, _⟩ := h (i * k + 0) u (h0.trans hu)
  refine ⟨g, off, e, hb, fun j hj => ?_⟩
  obtain ⟨v, hv⟩ : ∃ v, (f c)[j]? = some v := ⟨_, List.getElem?_eq_getElem (by rw [hf]; exact hj)⟩
  obtain ⟨g', off', e', _, hc⟩ := h (i * k + j) v ((hg j hj).trans hv)
  rw [e] at e'
  injection e' with e'
  injection e' with e1 e2
  subst e1 e2
  rw [Nat.add_assoc, hc, hv]
theorem own_lies_n {w : World} {base n size cap : Nat} {e : TypeId} {xs : List Value} {A : Option Addr} (h : w.ownsRow base e size (.slice A n cap) n xs) : Lies w w.heap.size A xs := by
  intro k u hu
  have hk : k < n * size := by rw [← h.1]; exact (List.getElem?_eq_some_iff.1 hu).1
  rcases h.2 with ⟨_, h0⟩ | ⟨g, cap', cur, hv, _, hh, _⟩
  · subst h0; simp at hk
  · injection hv with hA _ _
    subst hA
    refine ⟨g, 0, rfl, (Array.getElem?_eq_some_iff.1 hh).1, ?_⟩
    rw [Nat.zero_add, h.cellAt k hk, hu]
theorem cells_one_pl (xs : List Pl) : ∀ u ∈ flat Pl.cells xs, u.oneCell' = true := fun u hu => by
  obtain ⟨c, _, h⟩ := List.mem_flatMap.1 hu
  simp only [Pl.cells, List.mem_cons, List.not_mem_nil, or_false] at h
  rcases h with rfl | rfl | rfl <;> rfl
theorem cells_one_cd (xs : List Cd) : ∀ u ∈ flat Cd.cells xs, u.oneCell' = true := fun u hu => by
  obtain ⟨c, _, h⟩ := List.mem_flatMap.1 hu
  simp only [Cd.cells, List.mem_cons, List.not_mem_nil, or_false] at h
  rcases h with rfl | rfl | rfl | rfl | rfl | rfl <;> rfl
theorem cells_one_int (xs : List Int) : ∀ u ∈ xs.map (Value.int .i64), u.oneCell' = true := fun u hu => by
  obtain ⟨c, _, rfl⟩ := List.mem_map.1 hu; rfl
theorem copyInts_any (xs : List Int) (A : Option Addr) (cap : Nat) (w : World) (hx : Lies w w.heap.size A (xs.map (Value.int .i64))) (hl : xs.length ≤ 1000000000) :
    Calls Tryz.prog 78 #[.slice A xs.length cap] w fun e w' => ∃ A' cap', e = .returned (.slice A' xs.length cap') ∧ w'.ownsRow w.heap.size 3 1 (.slice A' xs.length cap') xs.length (xs.map (Value.int .i64)) ∧ Keeps (fun _ => False) w w' := by
  go_enter Tryz.func78, Tryz.ntmps78
  go_wp2_with (first
    | (at_builtin
       refine wpList_append_cells _ rfl _ _ 90 rfl w.heap.size 3 (.int .i64 0) 1 8 Tryz.underlying90 info_int rfl (by decide) (.slice none 0 0) 0 [] rfl (World.ownsRow_nil _ _ _ _) w.heap.size A xs.length cap (xs.map (Value.int .i64)) rfl hx (by simp) (cells_one_int xs) (by simp only [maxLen]; omega) (by omega) (Nat.le_refl _) ?_
       intro A' cap' w1 hown hg _ _ _
       simp only [Nat.zero_add, List.nil_append] at hown))
  go_ret
  exact ⟨A', cap', rfl, hown, (Keeps.refl _ w).grown hg (fun k hk => by cases hk)⟩
theorem copyPlayers_any (xs : List Pl) (A : Option Addr) (cap : Nat) (w : World) (hx : PlLies w w.heap.size A xs) (hl : xs.length ≤ 1000000000) :
    Calls Tryz.prog 40 #[.slice A xs.length cap] w fun e w' => ∃ A' cap', e = .returned (.slice A' xs.length cap') ∧ w'.ownsRow w.heap.size 44 3 (.slice A' xs.length cap') xs.length (flat Pl.cells xs) ∧ Keeps (fun _ => False) w w' := by
  go_enter Tryz.func40, Tryz.ntmps40
  go_wp2_with (first
    | (at_builtin
       refine wpList_append_cells _ rfl _ _ 22 rfl w.heap.size 44 (.agg #[.int .i32 0, .int .i32 0, .bool false]) 3 12 Tryz.underlying22 info_pl rfl (by decide) (.slice none 0 0) 0 [] rfl (World.ownsRow_nil _ _ _ _) w.heap.size A xs.length cap (flat Pl.cells xs) rfl (FLies.lies (f := Pl.cells) (fun _ => rfl) (by decide) hx) (flat_length (k := 3) (fun _ => rfl) xs) (cells_one_pl xs) (by simp only [maxLen]; omega) (by omega) (Nat.le_refl _) ?_
       intro A' cap' w1 hown hg _ _ _
       simp only [Nat.zero_add, List.nil_append] at hown))
  go_ret
  exact ⟨A', cap', rfl, hown, (Keeps.refl _ w).grown hg (fun k hk => by cases hk)⟩
theorem copyCards_any (xs : List Cd) (A : Option Addr) (cap : Nat) (w : World) (hx : CdLies w w.heap.size A xs) (hl : xs.length ≤ 1000000000) :
    Calls Tryz.prog 41 #[.slice A xs.length cap] w fun e w' => ∃ A' cap', e = .returned (.slice A' xs.length cap') ∧ w'.ownsRow w.heap.size 42 6 (.slice A' xs.length cap') xs.length (flat Cd.cells xs) ∧ Keeps (fun _ => False) w w' := by
  go_enter Tryz.func41, Tryz.ntmps41
  go_wp2_with (first
    | (at_builtin
       refine wpList_append_cells _ rfl _ _ 23 rfl w.heap.size 42 (.agg #[.int .i64 0, .int .i64 0, .int .i32 0, .int .i32 0, .int .i32 0, .int .i32 0]) 6 32 Tryz.underlying23 info_cd rfl (by decide) (.slice none 0 0) 0 [] rfl (World.ownsRow_nil _ _ _ _) w.heap.size A xs.length cap (flat Cd.cells xs) rfl (FLies.lies (f := Cd.cells) (fun _ => rfl) (by decide) hx) (flat_length (k := 6) (fun _ => rfl) xs) (cells_one_cd xs) (by simp only [maxLen]; omega) (by omega) (Nat.le_refl _) ?_
       intro A' cap' w1 hown hg _ _ _
       simp only [Nat.zero_add, List.nil_append] at hown))
  go_ret
  exact ⟨A', cap', rfl, hown, (Keeps.refl _ w).grown hg (fun k hk => by cases hk)⟩
end Go.Proofs.YthmfbcfbcookiaaGreatDoor
/-
  Copies of lists of rows: the walk. Conditions: lengths within 10 ^ 9.
-/
namespace Go.Proofs.YthmfbcfbcookiaaGreatDoor
open Go.RowKit
/-- Rows of the call's own, in a row of its own. -/
structure RowsOwn (w : World) (base : Nat) (v : Value) (rows : List (List Int)) (cells : List Value) : Prop where
  own : w.ownsRow base 90 1 v rows.length cells
  row : ∀ (i : Nat) (r : List Int), rows[i]? = some r → ∃ (Ai : Option Addr) (ci : Nat), cells[i]? = some (.slice Ai r.length ci) ∧ w.ownsRow base 3 1 (.slice Ai r.length ci) r.length (r.map (Value.int .i64))
theorem RowsOwn.nil (w : World) (base : Nat) : RowsOwn w base (.slice none 0 0) [] [] := ⟨World.ownsRow_nil _ _ _ _, fun i r h => by simp at h⟩
theorem RowsOwn.lie {w : World} {base : Nat} {A : Option Addr} {cap : Nat} {rows : List (List Int)} {cells : List Value} (h : RowsOwn w base (.slice A rows.length cap) rows cells) : RowsLie w w.heap.size A rows := fun i r hi => by
  obtain ⟨Ai, ci, hc, ho⟩ := h.row i r hi
  obtain ⟨g, off, e, hg, h1⟩ := own_lies_n h.own i _ hc
  exact ⟨g, off, Ai, ci, e, hg, h1, own_lies_n ho⟩
theorem RowsOwn.keeps {S : Nat → Prop} {w w' : World} {B : Nat} {v : Value} {rows : List (List Int)} {cells : List Value} (h : RowsOwn w B v rows cells) (hk : Keeps S w w') (hS : ∀ b, B ≤ b → ¬ S b) : RowsOwn w' B v rows cells :=
  ⟨own_keepsS h.own hk fun b hb => hS b (h.own.lt b hb).1, fun i r hi => by
    obtain ⟨Ai, ci, hc, ho⟩ := h.row i r hi
    exact ⟨Ai, ci, hc, own_keepsS ho hk fun b hb => hS b (ho.lt b hb).1⟩⟩
theorem RowsOwn.alloc {w : World} {B : Nat} {v : Value} {rows : List (List Int)} {cells : List Value} (h : RowsOwn w B v rows cells) (o : Obj) : RowsOwn (w.alloc o) B v rows cells :=
  ⟨h.own.alloc o, fun i r hi => by
    obtain ⟨Ai, ci, hc, ho⟩ := h.row i r hi
    exact ⟨Ai, ci, hc, ho.alloc o⟩⟩
/-- A row put behind: the outer row is grown, the inner ones stay. -/
theorem RowsOwn.push {w w' : World} {B c2 : Nat} {v : Value} {A2 : Option Addr} {rows : List (List Int)} {cells : List Value} {x : List Int} {A1 : Option Addr} {c1 : Nat} (h : RowsOwn w B v rows cells) (ho : w.ownsRow B 3 1 (.slice A1 x.length c1) x.length (x.map (Value.int .i64)))
    (hg : w.grownBy w' v.ownBlock) (hown : w'.ownsRow B 90 1 (.slice A2 (rows.length + 1) c2) (rows.length + 1) (cells ++ [.slice A1 x.length c1])) : RowsOwn w' B (.slice A2 (rows ++ [x]).length c2) (rows ++ [x]) (cells ++ [.slice A1 x.length c1]) := by
  have hcl : cells.length = rows.length := by rw [h.own.1, Nat.mul_one]
  have hkept : ∀ {v' : Value} {n : Nat} {ys : List Value}, w.ownsRow B 3 1 v' n ys → w'.ownsRow B 3 1 v' n ys := fun {v'} {n} {ys} h' => h'.kept hg (by
    rcases h'.2 with ⟨rfl, _⟩ | ⟨g, _, cur, rfl, _, hb, _⟩
    · exact .inl rfl
    · refine .inr fun e => ?_
      rcases h.own.2 with ⟨rfl, _⟩ | ⟨g', _, cur', rfl, _, hb', _⟩
      · cases e
      · simp only [Value.ownBlock, Option.some.injEq] at e
        subst e
        rw [hb] at hb'
        injection hb' with hb'
        injection hb' with _ hb' _
        exact absurd hb' (by decide))
  refine ⟨by rw [List.length_append]; exact hown, fun i r hi => ?_⟩
  rw [List.getElem?_append] at hi
  split at hi
  · rename_i hlt
    obtain ⟨Ai, ci, hc, ho'⟩ := h.row i r hi
    exact ⟨Ai, ci, by rw [List.getElem?_append_left (by omega)]; exact hc, hkept ho'⟩
  · rename_i hge
    have h0 : i - rows.length = 0 := by
      rcases Nat.eq_zero_or_pos (i - rows.length) with h | h
      · exact h
      · rw [List.getElem?_eq_none (by simp; omega)] at hi; cases hi
    rw [h0] at hi
    obtain rfl : x = r := by simpa using hi
    exact ⟨A1, c1, by rw [List.getElem?_append_right (by omega), hcl, h0]; rfl, hkept ho⟩
set_option maxHeartbeats 1000000 in
theorem copyRows_any (xs : List (List Int)) (A : Option Addr) (cap : Nat) (w : World) (hx : RowsLie w w.heap.size A xs) (hl : xs.length ≤ 1000000000) (hr : ∀ r ∈ xs, r.length ≤ 1000000000) :
    Calls Tryz.prog 42 #[.slice A xs.length cap] w fun e w' => ∃ A' cap' cells, e = .returned (.slice A' xs.length cap') ∧ RowsOwn w' w.heap.size (.slice A' xs.length cap') xs cells ∧ Keeps (fun _ => False) w w' := by
  have HX := Lib.hid hx; clear hx
  go_enter Tryz.func42, Tryz.ntmps42
  go_wp2_with fail
  go_loopw [3, 4] (fun vc vi wr => ∃ (i : Nat) (cells : List Value) (A' : Option Addr) (c' : Nat), i ≤ xs.length ∧ vi = .int .i64 i ∧ vc = .slice A' i c' ∧ Hid (RowsOwn wr w.heap.size (.slice A' i c') (xs.take i) cells) ∧ Hid (Keeps (fun _ => False) w wr)) (fun _ vi _ => xs.length - (intOf vi).toNat)
  case atStart => exact ⟨0, [], none, 0, by omega, rfl, rfl, Lib.hid (RowsOwn.nil _ _), Lib.hid (Keeps.refl _ w)⟩
  case round =>
    obtain ⟨i, cells, A', c', hi, rfl, rfl, HO, HK⟩ := hrel
    by_cases hlt : i < xs.length
    · have hxi : xs[i]? = some xs[i] := List.getElem?_eq_getElem hlt
      obtain ⟨g, off, Ai, ci, rfl, hg, hc, hl2⟩ := (RowsLie.keeps HX.out HK.out (fun b hb e => e.elim)) i xs[i] hxi
      have hri := hr xs[i] (List.getElem_mem hlt)
      generalize xs[i] = x at *
      go_wp2_with fail
      refine (copyInts_any x Ai ci wr (hl2.more (HK.out.size)) hri).mono ?_
      rintro e w1 ⟨A1, c1, rfl, ho1, hk1⟩
      have HA : Hid (RowsOwn (w1.alloc (.cells #[.slice A1 x.length c1] 90)) w.heap.size (.slice A' i c') (xs.take i) cells) := Lib.hid ((HO.out.keeps hk1 (fun _ _ => id)).alloc _)
      have hlen : (xs.take i).length = i := by rw [List.length_take]; omega
      have HA0 : Hid ((w1.alloc (.cells #[.slice A1 x.length c1] 90)).ownsRow w.heap.size 90 1 (.slice A' i c') i cells) := Lib.hid (by have := HA.out.own; rwa [hlen] at this)
      have HN : Hid (Lies (w1.alloc (.cells #[.slice A1 x.length c1] 90)) (w1.heap.size + 1) (some ⟨w1.heap.size, 0, none⟩) [.slice A1 x.length c1]) := Lib.hid (Lies.row (fr := (0, 0)) (Whole.made w1 90 #[.slice A1 x.length c1]) (Nat.lt_succ_self _))
      have HB : Hid (w.heap.size ≤ (w1.alloc (.cells #[.slice A1 x.length c1] 90)).heap.size) := Lib.hid (((HK.out.trans hk1).alloc _).size)
      go_wp2_with (first
        | (at_builtin
           refine wpList_append_cells _ rfl _ _ 24 rfl w.heap.size 90 (.slice none 0 0) 1 24 Tryz.underlying24 info_row rfl (by decide) (.slice A' i c') i cells rfl HA0.out _ (some ⟨w1.heap.size, 0, none⟩) 1 1 [.slice A1 x.length c1] rfl HN.out rfl (fun u hu => by obtain rfl : u = _ := List.mem_singleton.1 hu; rfl) (by simp only [maxLen]; omega) (by omega) HB.out ?_
           intro A2 c2 w2 hown hg2 _ _ _))
      have ho2 : (w1.alloc (.cells #[.slice A1 x.length c1] 90)).ownsRow w.heap.size 3 1 (.slice A1 x.length c1) x.length (x.map (Value.int .i64)) := (ho1.mono HK.out.size).alloc _
      have hp := HA.out.push ho2 hg2 (A2 := A2) (c2 := c2) (by rw [hlen]; exact hown)
      have ht : xs.take i ++ [x] = xs.take (i + 1) := by rw [List.take_add_one, hxi]; rfl
      rw [ht, show (xs.take (i + 1)).length = i + 1 by rw [List.length_take]; omega] at hp
      exact ⟨⟨i + 1, _, A2, c2, by omega, by go_num, rfl, Lib.hid hp, Lib.hid (((HK.out.trans hk1).alloc _).grown hg2 (fun k hk h0 => absurd ((HA0.out.lt k hk).1) (by omega)))⟩, by simp [intOf]; omega⟩
    · obtain rfl : i = xs.length := by omega
      go_wp2_with fail
      go_ret
      have HO' := HO.out
      rw [List.take_length] at HO'
      exact ⟨A', c', cells, rfl, HO', HK.out⟩
end Go.Proofs.YthmfbcfbcookiaaGreatDoor
