/-
  The walks of the document's done, twice and Join. Conditions: none.
-/
import Derived.Test.YtcdolkifahlakaaSumsC
import Derived.Test.YtcdolkifahlakaaSumsD
import Derived.Deep.RegionHeld3
namespace Go.Proofs.Ytcdolkifahlakaa
open Go.RowKit Crc

/-- A step as an array: what each bit becomes by n shifts. -/
def stepAt (n k : Nat) : Value := .int .u32 (wn (shn n (BitVec.twoPow 32 k)))
def stepV (n : Nat) : Array Value := full 32 (stepAt n)
theorem stepV_size (n : Nat) : (stepV n).size = 32 := full_size _ _
theorem stepV_get (n k : Nat) (h : k < 32) : (stepV n)[k]? = some (.int .u32 (wn (shn n (BitVec.twoPow 32 k)))) := full_get _ _ k h
theorem stepV_one (n : Nat) : (stepV n).all (·.oneCell') = true := by
  rw [Array.all_eq_true_iff_forall_mem]
  intro v hv
  simp only [stepV, full, List.mem_toArray, List.mem_map] at hv
  obtain ⟨i, _, rfl⟩ := hv
  rfl
def stepTo (n k : Nat) : Array Value := fillTo 32 (stepAt n) (.int .u32 0) k
theorem stepTo_size (n k : Nat) : (stepTo n k).size = 32 := fillTo_size _ _ _ _
theorem stepTo_full (n : Nat) : stepTo n 32 = stepV n := fillTo_full _ _ _
theorem zero_step0 (w : World) : Sem.run Try.prog (zeroValue 51) w = .ok (.agg (fillTo 32 (fun _ => .int .u32 0) (.int .u32 0) 0)) w := by kernel_rfl
theorem zero_step (n : Nat) (w : World) : Sem.run Try.prog (zeroValue 51) w = .ok (.agg (stepTo n 0)) w := by
  have h : stepTo n 0 = fillTo 32 (fun _ => .int .u32 0) (.int .u32 0) 0 := by
    unfold stepTo fillTo
    simp
  rw [h]
  exact zero_step0 w
theorem size_step : (Try.prog.info? 51).map (·.size) = some 32 := by kernel_rfl
theorem shr_low (x : W) (k : Nat) : (x >>> k).getLsbD 0 = x.getLsbD k := by rw [BitVec.getLsbD_ushiftRight]; rfl
theorem shr_half (x : W) (k : Nat) : wn (x >>> k) / (2 : Int) = wn (x >>> (k + 1)) := by rw [half_nat, ← BitVec.shiftRight_add]

set_option maxHeartbeats 1000000 in
theorem done_any (n : Nat) (x : W) (w : World) :
    Calls Try.prog 34 #[.agg (stepV n), .int .u32 (wn x)] w fun e w' => e = .returned (.int .u32 (wn (shn n x))) ∧ Below w.heap.size w w' := by
  have hb : Below w.heap.size w (w.alloc (.cells (stepV n) 51)) := (Below.refl _ _).alloc (Nat.le_refl _) _
  go_enter Try.func34, Try.ntmps34
  go_wp2
  go_loop [1, 5, 6] (fun vx vy vk => ∃ k : Nat, k ≤ 32 ∧ vk = .int .i64 k ∧ vy = .int .u32 (wn (doneTo n x k)) ∧ vx = .int .u32 (wn (x >>> k))) (fun _ _ vk => 32 - (intOf vk).toNat)
  case atStart => exact ⟨0, by omega, rfl, rfl, by rw [BitVec.ushiftRight_zero]⟩
  case round =>
    obtain ⟨k, hk, rfl, rfl, rfl⟩ := hrel
    by_cases hlt : k < 32
    · have hcell := stepV_get n k hlt
      have hp : Hid (doneTo n x (k + 1) = doneTo n x k ^^^ (if x.getLsbD k then shn n (BitVec.twoPow 32 k) else 0#32)) := Lib.hid rfl
      have hx := xor_nat (doneTo n x k) (shn n (BitVec.twoPow 32 k))
      have hhalf := Lib.hid (shr_half x k)
      have hlow := shr_low x k
      have hbd := wn_bd (x >>> k)
      obtain ⟨hb0, hb1⟩ := hbd
      generalize doneTo n x k = y at *
      cases hab : x.getLsbD k with
      | true =>
        rw [hab, if_pos rfl] at hp
        have h1 := mod2_odd (hlow.trans hab)
        clear hab hlow
        go_wp2
        go_round
        case rel => exact ⟨k + 1, by omega, by go_num, u32_eq (by rw [hp.out]), u32_eq (by rw [hhalf.out])⟩
        case measure => simp [intOf]; omega
      | false =>
        rw [hab, if_neg (by simp), BitVec.xor_zero] at hp
        have h1 := mod2_even (hlow.trans hab)
        clear hab hlow
        go_wp2
        go_round
        case rel => exact ⟨k + 1, by omega, by go_num, u32_eq (by rw [hp.out]), u32_eq (by rw [hhalf.out])⟩
        case measure => simp [intOf]; omega
    · obtain rfl : k = 32 := by omega
      rw [doneTo_all]
      go_wp2
      go_ret
      exact ⟨rfl, hb⟩

theorem twice_keep {W W' : World} {g0 g2 k : Nat} {cs : List Value} {u : Value} (hb : Below W.heap.size W W') (h0 : W.rangeAt g0 0 cs) (h1 : W.cell? ⟨g0, k, none⟩ = some u) (h4 : g0 < W.heap.size) (h5 : g2 < W.heap.size) :
    W'.rangeAt g0 0 cs ∧ W'.cell? ⟨g0, k, none⟩ = some u ∧ g0 < W'.heap.size ∧ g2 < W'.heap.size :=
  ⟨fun j v hj => (hb.cell h4).trans (h0 j v hj), (hb.cell h4).trans h1, Nat.lt_of_lt_of_le h4 hb.size, Nat.lt_of_lt_of_le h5 hb.size⟩
theorem twice_put {W : World} {g0 g2 k : Nat} {cs : List Value} {u : Value} (v : Value) (hne : g0 ≠ g2) (h0 : W.rangeAt g0 0 cs) (h1 : W.cell? ⟨g0, k, none⟩ = some u) (h4 : g0 < W.heap.size) (h5 : g2 < W.heap.size) :
    (W.setCell ⟨g2, k, none⟩ v).rangeAt g0 0 cs ∧ (W.setCell ⟨g2, k, none⟩ v).cell? ⟨g0, k, none⟩ = some u ∧ g0 < (W.setCell ⟨g2, k, none⟩ v).heap.size ∧ g2 < (W.setCell ⟨g2, k, none⟩ v).heap.size :=
  ⟨fun j x hj => (World.cell?_setCell_other W _ _ v (fun e => hne (by injection e with e1; exact e1.symm))).trans (h0 j x hj), (World.cell?_setCell_other W _ _ v (fun e => hne (by injection e with e1; exact e1.symm))).trans h1, by simpa using h4, by simpa using h5⟩
set_option maxHeartbeats 400000 in
set_option maxRecDepth 100000 in
theorem twice_any (n : Nat) (w : World) :
    Calls Try.prog 35 #[.agg (stepV n)] w fun e w' => e = .returned (.agg (stepV (n + n))) ∧ Below w.heap.size w w' := by
  have hz := zero_step (n + n)
  have hsz : (Try.prog.info? 51).map (·.size) = some (stepV n).size := by rw [stepV_size]; exact size_step
  have S := Lib.hid hsz; clear hsz
  go_enter Try.func35, Try.ntmps35
  go_wp2
  have hA : Whole (((w.alloc (.cells (stepV n) 51)).alloc (.cells (stepTo (n + n) 0) 51)).alloc (.cells (stepTo (n + n) 0) 51)) w.heap.size 51 (stepV n) := ((Whole.made w _ _).alloc _).alloc _
  have hR : Whole (((w.alloc (.cells (stepV n) 51)).alloc (.cells (stepTo (n + n) 0) 51)).alloc (.cells (stepTo (n + n) 0) 51)) (w.heap.size + 1) 51 (stepTo (n + n) 0) := by
    have := (Whole.made (w.alloc (.cells (stepV n) 51)) 51 (stepTo (n + n) 0)).alloc (.cells (stepTo (n + n) 0) 51)
    simpa using this
  have hT : Whole (((w.alloc (.cells (stepV n) 51)).alloc (.cells (stepTo (n + n) 0) 51)).alloc (.cells (stepTo (n + n) 0) 51)) (w.heap.size + 1 + 1) 51 (stepTo (n + n) 0) := by
    have := Whole.made ((w.alloc (.cells (stepV n) 51)).alloc (.cells (stepTo (n + n) 0) 51)) 51 (stepTo (n + n) 0)
    simpa using this
  have hB : Below w.heap.size w (((w.alloc (.cells (stepV n) 51)).alloc (.cells (stepTo (n + n) 0) 51)).alloc (.cells (stepTo (n + n) 0) 51)) :=
    (((Below.refl _ _).alloc (Nat.le_refl _) _).alloc (by simp) _).alloc (by simp; omega) _
  have hg0 : w.heap.size ≤ w.heap.size := Nat.le_refl _
  have hg1 : w.heap.size < w.heap.size + 1 := Nat.lt_succ_self _
  have hg2 : w.heap.size + 1 < w.heap.size + 1 + 1 := Nat.lt_succ_self _
  generalize ((w.alloc (.cells (stepV n) 51)).alloc (.cells (stepTo (n + n) 0) 51)).alloc (.cells (stepTo (n + n) 0) 51) = w1 at *
  generalize w.heap.size + 1 + 1 = g2 at *
  generalize w.heap.size + 1 = g1 at *
  clear hg0
  have Z := Lib.hid hz; clear hz
  go_loopw [4] (fun vk wr => ∃ k : Nat, k ≤ 32 ∧ vk = .int .i64 k ∧ Whole wr w.heap.size 51 (stepV n) ∧ Whole wr g1 51 (stepTo (n + n) 0) ∧ Whole wr g2 51 (stepTo (n + n) k) ∧ Below w.heap.size w wr) (fun vk _ => 32 - (intOf vk).toNat)
  case atStart => exact ⟨0, by omega, rfl, hA, hR, hT, hB⟩
  case round =>
    obtain ⟨k, hk, rfl, hAr, hRr, hTr, hBr⟩ := hrel
    clear hA hR hT hB
    by_cases hlt : k < 32
    · have hu := Try.underlying51
      have hi : (Try.prog.info? 51).map (·.size) = some ((List.range 32).map (stepAt n)).length := by rw [size_step]; simp
      have hl : ((List.range 32).map (stepAt n)).length = 32 := by simp
      have h1 : ∀ v ∈ (List.range 32).map (stepAt n), v.oneCell' = true := by
        intro v hv
        obtain ⟨i, _, rfl⟩ := List.mem_map.1 hv
        rfl
      have hx1 : (0 : Int) ≤ (k : Int) := by omega
      have hx2 : (k : Int) < 32 := by omega
      have hr0 : wr.rangeAt w.heap.size 0 ((List.range 32).map (stepAt n)) := fun j v hj => by
        rw [Nat.zero_add, hAr.cellAt]
        simpa [stepV, full] using hj
      have hr1 : wr.cell? ⟨w.heap.size, k, none⟩ = some (.int .u32 (wn (shn n (BitVec.twoPow 32 k)))) := (hAr.cellAt k).trans (stepV_get n k hlt)
      have hr2 : wr.cell? ⟨g2, k, none⟩ = some (.int .u32 0) := (hTr.cellAt k).trans (fillTo_here _ _ _ k hlt)
      have hr3 : wr.frozen? ⟨g2, k, none⟩ = false := hTr.free k
      have hr4 : w.heap.size < wr.heap.size := hAr.inside
      have hr5 : g2 < wr.heap.size := hTr.inside
      have hC : Hid (∀ W : World, Calls Try.prog 34 #[.agg ((List.range 32).map (stepAt n)).toArray, .int .u32 (wn (shn n (BitVec.twoPow 32 k)))] W fun e w' => e = .returned (.int .u32 (wn (shn n (shn n (BitVec.twoPow 32 k))))) ∧ Below W.heap.size W w') :=
        Lib.hid (fun W => done_any n _ W)
      generalize (List.range 32).map (stepAt n) = cs at *
      go_wp2_with fail
      have hne : w.heap.size ≠ g2 := by omega
      go_region_held3 (fun w' => w'.rangeAt w.heap.size 0 cs ∧ w'.cell? ⟨w.heap.size, k, none⟩ = some (.int .u32 (wn (shn n (BitVec.twoPow 32 k)))) ∧ w.heap.size < w'.heap.size ∧ g2 < w'.heap.size)
        (first | (exact ⟨hr0, hr1, hr4, hr5⟩) | (exact twice_keep (by assumption) (by assumption) (by assumption) (by assumption) (by assumption)) | (exact twice_put _ hne hs3.1 hs3.2.1 hs3.2.2.1 hs3.2.2.2) | go_keep)
        (first | (go_at_call 34; refine (hC.out _).mono ?_; rintro e w' ⟨rfl, hb⟩; have hs1 : w'.cell? ⟨g2, k, none⟩ = some (.int .u32 0) := (hb.cell (p := ⟨g2, k, none⟩) hr5).trans hr2; have hs2 : w'.frozen? ⟨g2, k, none⟩ = false := (hb.frozen (p := ⟨g2, k, none⟩) hr5).trans hr3; have hs3 := twice_keep (g2 := g2) hb hr0 hr1 hr4 hr5))
      replace hb : Below wr.heap.size wr w' := ((Below.refl wr.heap.size wr).drew).trans hb
      have hA2 : Whole (w'.setCell ⟨g2, k, none⟩ (.int .u32 (wn (shn n (shn n (BitVec.twoPow 32 k)))))) w.heap.size 51 (stepV n) := (hAr.past hb).putFar (p := ⟨g2, k, none⟩) hne _
      have hR2 : Whole (w'.setCell ⟨g2, k, none⟩ (.int .u32 (wn (shn n (shn n (BitVec.twoPow 32 k)))))) g1 51 (stepTo (n + n) 0) := (hRr.past hb).putFar (p := ⟨g2, k, none⟩) (by show g1 ≠ g2; omega) _
      have hT2 : Whole (w'.setCell ⟨g2, k, none⟩ (.int .u32 (wn (shn n (shn n (BitVec.twoPow 32 k)))))) g2 51 (stepTo (n + n) (k + 1)) := by
        have e1 : Value.int .u32 (wn (shn n (shn n (BitVec.twoPow 32 k)))) = stepAt (n + n) k := by unfold stepAt; rw [shn_add]
        have e2 := fillTo_step 32 (stepAt (n + n)) (.int .u32 0) k
        unfold stepTo
        rw [e1, ← e2]
        exact (hTr.past hb).put k _
      have hB2 : Below w.heap.size w (w'.setCell ⟨g2, k, none⟩ (.int .u32 (wn (shn n (shn n (BitVec.twoPow 32 k)))))) := (belowThen' hBr hb).setCell (p := ⟨g2, k, none⟩) (by show w.heap.size ≤ g2; omega) _
      go_wp2
      go_roundw
      case rel => exact ⟨k + 1, by omega, by go_num, hA2, hR2, hT2, hB2⟩
      case measure => simp [intOf]; omega
    · obtain rfl : k = 32 := by omega
      have hT32 : Whole wr g2 51 (stepV (n + n)) := by rw [← stepTo_full]; exact hTr
      have S2 : Hid ((Try.prog.info? 51).map (·.size) = some (stepV (n + n)).size) := Lib.hid (by rw [stepV_size]; exact size_step)
      go_wp2_with (first
        | (refine wpList_load_row rfl 51 _ rfl g2 rfl 51 (stepV (n + n)) (0, 0) _ hT32 Try.underlying51 rfl S2.out ?_)
        | (refine wpList_store_whole rfl 51 _ _ rfl rfl g1 rfl (stepV (n + n)) rfl 51 (stepTo (n + n) 0) hRr S2.out (by rw [stepV_size, stepTo_size]) (stepV_one _) ?_))
      exact bodyPost_ret (results_cell_row rfl _ _ g1 _ _ (0, 0) _ rfl (heap_setRow_same hRr _) Try.underlying51 rfl S2.out) rfl ⟨rfl, belowRow hBr (by omega) _⟩

theorem pow_wn (k : Nat) (h : k < 32) : (2 : Int) ^ k % 4294967296 = wn (BitVec.twoPow 32 k) := by
  unfold wn
  rw [BitVec.toNat_twoPow]
  have : (2 : Nat) ^ k < 4294967296 := by
    have : 2 ^ k ≤ 2 ^ 31 := Nat.pow_le_pow_right (by omega) (by omega)
    omega
  have e : ((2 ^ k : Nat) : Int) = (2 : Int) ^ k := by simp
  rw [Nat.mod_eq_of_lt this, ← e]
  generalize 2 ^ k = z at *
  omega
set_option maxHeartbeats 1000000 in
set_option maxRecDepth 100000 in
theorem refJoin_any (a b : W) (N : Nat) (hN : N ≤ 9223372036854775807) (w : World) :
    Calls Try.prog 26 #[.int .u32 (wn a), .int .u32 (wn b), .int .i64 (N : Int)] w fun e w' => e = .returned (.int .u32 (wn (join a b N))) ∧ Below w.heap.size w w' := by
  have hz := zero_step 8
  have hzb : Below w.heap.size w (w.alloc (.cells (stepTo 8 0) 51)) := (Below.refl _ _).alloc (Nat.le_refl _) _
  have hzw : Whole (w.alloc (.cells (stepTo 8 0) 51)) w.heap.size 51 (stepTo 8 0) := Whole.made _ _ _
  have hzg : w.heap.size ≤ w.heap.size := Nat.le_refl _
  go_enter Try.func26, Try.ntmps26
  go_wp2
  generalize w.alloc (.cells (stepTo 8 0) 51) = w1 at *
  go_loopw [8] (fun vk wr => ∃ k : Nat, k ≤ 32 ∧ vk = .int .i64 k ∧ Whole wr w.heap.size 51 (stepTo 8 k) ∧ Below w.heap.size w wr) (fun vk _ => 32 - (intOf vk).toNat)
  case atStart => exact ⟨0, by omega, rfl, hzw, hzb⟩
  case round =>
    obtain ⟨k, hk, rfl, hWr, hBr⟩ := hrel
    clear hzb hzw
    by_cases hlt : k < 32
    · have hp := pow_wn k hlt
      have hcell := (hWr.cellAt k).trans (fillTo_here 32 (stepAt 8) (.int .u32 0) k hlt)
      have hfree := hWr.free k
      have hst : Whole (wr.setCell ⟨w.heap.size, k, none⟩ (.int .u32 (wn (shn 8 (BitVec.twoPow 32 k))))) w.heap.size 51 (stepTo 8 (k + 1)) := by
        have e2 := fillTo_step 32 (stepAt 8) (.int .u32 0) k
        unfold stepTo
        rw [← e2]
        exact hWr.put k _
      have hb2 : Below w.heap.size w (wr.setCell ⟨w.heap.size, k, none⟩ (.int .u32 (wn (shn 8 (BitVec.twoPow 32 k))))) := hBr.setCell (p := ⟨w.heap.size, k, none⟩) (Nat.le_refl _) _
      go_wp2_with (go_at_call 29; refine (refShifted _ _).mono ?_; rintro e w' ⟨rfl, rfl⟩)
      go_roundw
      case rel => exact ⟨k + 1, by omega, by go_num, hst, hb2⟩
      case measure => simp [intOf]; omega
    · have hWr' : Whole wr w.heap.size 51 (stepV 8) := by
        have e : k = 32 := by omega
        rw [e] at hWr
        unfold stepTo at hWr
        rw [fillTo_full] at hWr
        exact hWr
      clear hWr hz
      go_wp2_with fail
      go_loopw [0, 2] (fun va vn wq => ∃ (M q : Nat) (a' : W), M ≤ 9223372036854775807 ∧ vn = .int .i64 (M : Int) ∧ va = .int .u32 (wn a') ∧ Whole wq w.heap.size 51 (stepV q) ∧ Below w.heap.size w wq ∧ Hid (shn (q * M) a' = shn (8 * N) a)) (fun _ vn _ => (intOf vn).toNat)
      case atStart => exact ⟨N, 8, a, hN, rfl, rfl, hWr', hBr, Lib.hid rfl⟩
      case round =>
        obtain ⟨M, q, a', hM, rfl, rfl, hWq, hBq, hq⟩ := hrel
        have S := fun (q : Nat) => Lib.hid (show (Try.prog.info? 51).map (·.size) = some (stepV q).size by rw [stepV_size]; exact size_step)
        by_cases h0 : 0 < M
        · by_cases hodd : M % 2 = 1
          · have H : Hid (shn ((q + q) * (M / 2)) (shn q a') = shn (8 * N) a) := Lib.hid (by
              rw [← shn_add, ← hq.out]
              congr 1
              have : M = 2 * (M / 2) + 1 := by omega
              generalize M / 2 = m at *
              subst this
              rw [Nat.mul_add, Nat.mul_one, Nat.add_comm, ← Nat.mul_assoc, Nat.mul_comm q 2, Nat.two_mul])
            have ho : ((M : Int) % 2) = 1 := by omega
            clear hodd hq
            go_wp2_with (first
              | (refine wpList_load_row rfl 51 _ rfl w.heap.size rfl 51 (stepV q) (0, 0) _ hWq Try.underlying51 rfl (S q).out ?_))
            refine (done_any q a' _).mono ?_
            rintro e w2 ⟨rfl, hb2⟩
            have hWq2 := hWq.past hb2
            have hBq2 := belowThen' hBq hb2
            clear hWq hBq hb2
            go_wp2_with (first
              | (refine wpList_load_row rfl 51 _ rfl w.heap.size rfl 51 (stepV q) (0, 0) _ hWq2 Try.underlying51 rfl (S q).out ?_)
              | (go_at_call 35; refine (twice_any q _).mono ?_; rintro e w3 ⟨rfl, hb3⟩)
              | (refine wpList_store_whole rfl 51 _ _ rfl rfl w.heap.size rfl (stepV (q + q)) rfl 51 (stepV q) (hWq2.past hb3) (S (q + q)).out (by rw [stepV_size, stepV_size]) (stepV_one _) ?_))
            go_roundw
            case rel => exact ⟨M / 2, q + q, shn q a', by omega, by go_num, rfl, heap_setRow_same (hWq2.past hb3) _, belowRow (belowThen' hBq2 hb3) (Nat.le_refl _) _, H⟩
            case measure => simp [intOf]; omega
          · have H : Hid (shn ((q + q) * (M / 2)) a' = shn (8 * N) a) := Lib.hid (by
              rw [← hq.out]
              congr 1
              have : M = 2 * (M / 2) := by omega
              generalize M / 2 = m at *
              subst this
              rw [← Nat.mul_assoc, Nat.mul_comm q 2, Nat.two_mul])
            have ho : ((M : Int) % 2) = 0 := by omega
            clear hodd hq
            go_wp2_with (first
              | (refine wpList_load_row rfl 51 _ rfl w.heap.size rfl 51 (stepV q) (0, 0) _ hWq Try.underlying51 rfl (S q).out ?_)
              | (go_at_call 35; refine (twice_any q _).mono ?_; rintro e w3 ⟨rfl, hb3⟩)
              | (refine wpList_store_whole rfl 51 _ _ rfl rfl w.heap.size rfl (stepV (q + q)) rfl 51 (stepV q) (hWq.past hb3) (S (q + q)).out (by rw [stepV_size, stepV_size]) (stepV_one _) ?_))
            go_roundw
            case rel => exact ⟨M / 2, q + q, a', by omega, by go_num, rfl, heap_setRow_same (hWq.past hb3) _, belowRow (belowThen' hBq hb3) (Nat.le_refl _) _, H⟩
            case measure => simp [intOf]; omega
        · have hj : Hid (join a b N = a' ^^^ b) := Lib.hid (by
            have hM0 : M = 0 := by omega
            unfold join; rw [← hq.out, hM0, Nat.mul_zero]; rfl)
          have hx := xor_nat a' b
          clear hq
          go_wp2
          go_ret
          exact ⟨by rw [hj.out]; rfl, hBq⟩
theorem refJoin_neg (a b : W) (n : Int) (hn : n < 0) (w : World) :
    Calls Try.prog 26 #[.int .u32 (wn a), .int .u32 (wn b), .int .i64 n] w fun e w' => e = .returned (.int .u32 (wn 0#32)) ∧ w = w' := by
  go_enter Try.func26, Try.ntmps26
  go_wp2
  go_ret
  exact ⟨rfl, rfl⟩
end Go.Proofs.Ytcdolkifahlakaa
