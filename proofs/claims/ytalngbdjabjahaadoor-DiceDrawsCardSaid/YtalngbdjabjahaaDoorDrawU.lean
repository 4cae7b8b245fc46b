/-
  DiceDraws: so many numbers out of All: the walk. Conditions: at most a thousand.
-/
import Derived.Test.YtalngbdjabjahaaDoorDrawT
namespace Go.Proofs.YtalngbdjabjahaaDoor
open Go.RowKit Go.Shelf
attribute [local go_sem] Oper.semAt_some
theorem one_cell (V : World) (u : Value) (t : TypeId) : ∀ j v, [u][j]? = some v → (V.alloc (.cells #[u] t)).cell? ((⟨V.heap.size, 0, none⟩ : Addr).add j) = some v := by
  rintro (_ | j) v h
  · simp only [List.getElem?_cons_zero, Option.some.injEq] at h
    subst h
    exact (Whole.made V t #[u]).cellAt 0
  · simp at h
set_option maxRecDepth 100000 in
set_option maxHeartbeats 4000000 in
theorem taken_some (g z0 n : Nat) (h1 : 1 ≤ n) (hn : n ≤ 1000) (w : World) (hd : DiceAt w g z0) :
    Calls Tryd.prog 47 #[.pointer (some ⟨g, 0, none⟩), .int .i64 (n : Nat)] w fun e w' => (∃ A cap, e = .returned (.slice A n cap) ∧ w'.ownsRow w.heap.size 61 1 (.slice A n cap) n ((drawsOf z0 n).map (Value.int .u64))) ∧ DiceAt w' g (placeN n z0) ∧ Keeps (fun b => b = g) w w' := by
  have hgin := hd.inside
  have HD := Lib.hid hd; clear hd
  refine (callsIn_wide (n := 30)).1 ?_
  refine callsIn_of_wp_marks Tryd.func47 rfl trivial ?_ rfl
  simp only [Tryd.ntmps47, List.size_toArray, List.length_cons, List.length_nil, Nat.reduceAdd, Nat.reduceSub, Array.replicate_succ, Array.replicate_zero, List.push_toArray, List.append_toArray, List.nil_append, List.cons_append]
  have hq := all_not_nil
  gi_wp2_with fail
  refine ⟨trivial, (callsIn_wide.2 (all_any _ _)).mono ?_⟩
  rintro e w' ⟨rfl, rfl⟩
  have hn0 : ¬ ((n : Int) = 0) := by omega
  gi_wp2_with fail
  have hnb := ((Whole.made w 3 #[.int .i64 n]).alloc (.cells #[.slice none 0 0] 88)).alloc (.cells #[.pointer (some ⟨g, 0, none⟩)] 63)
  have hlb := (Whole.made (w.alloc (.cells #[.int .i64 n] 3)) 88 #[.slice none 0 0]).alloc (.cells #[.pointer (some ⟨g, 0, none⟩)] 63)
  have hcb := Whole.made ((w.alloc (.cells #[.int .i64 n] 3)).alloc (.cells #[.slice none 0 0] 88)) 63 #[.pointer (some ⟨g, 0, none⟩)]
  have hk0 := (((Keeps.refl (fun b => b = g) w).alloc (.cells #[.int .i64 n] 3)).alloc (.cells #[.slice none 0 0] 88)).alloc (.cells #[.pointer (some ⟨g, 0, none⟩)] 63)
  have hd0 := Whole.keeps HD.out (((Keeps.refl (fun _ => False) w).alloc (.cells #[.int .i64 n] 3)).alloc (.cells #[.slice none 0 0] 88) |>.alloc (.cells #[.pointer (some ⟨g, 0, none⟩)] 63)) (fun h => h)
  have hsz : (((w.alloc (.cells #[.int .i64 n] 3)).alloc (.cells #[.slice none 0 0] 88)).alloc (.cells #[.pointer (some ⟨g, 0, none⟩)] 63)).heap.size = w.heap.size + 1 + 1 + 1 := by simp
  have hs2 : ((w.alloc (.cells #[.int .i64 n] 3)).alloc (.cells #[.slice none 0 0] 88)).heap.size = w.heap.size + 1 + 1 := by simp
  have hs1 : (w.alloc (.cells #[.int .i64 n] 3)).heap.size = w.heap.size + 1 := by simp
  rw [hs2] at hcb
  rw [hs1] at hlb
  replace hnb := Lib.hid hnb
  replace hlb := Lib.hid hlb
  replace hcb := Lib.hid hcb
  replace hk0 := Lib.hid hk0
  replace hd0 := Lib.hid hd0
  clear hs1 hs2 HD
  generalize ((w.alloc (.cells #[.int .i64 n] 3)).alloc (.cells #[.slice none 0 0] 88)).alloc (.cells #[.pointer (some ⟨g, 0, none⟩)] 63) = W1 at hnb hlb hcb hk0 hd0 hsz ⊢
  generalize hlbe : w.heap.size + 1 = lb at *
  generalize hcbe : lb + 1 = cb at *
  refine wpIn_rangeFunc_turn rfl (by omega) (gf := 58) (lb := #[.pointer (some ⟨cb, 0, none⟩)]) rfl trivial (enters_of Tryd.func58 (by kernel_rfl) rfl) ?_
  intro fn rec hfn hrec
  refine (all1_turn 29 (by omega) (W1.heap.size + 1) cb g n
    (fun k z W => Tk w w.heap.size lb cb W1.heap.size g n (.loop (rec .ready none)) z0 k k W ∧ z = placeN k z0 ∧ k < n)
    (fun W => Tk w w.heap.size lb cb W1.heap.size g n (.loop (rec .done (some (.exit 0)))) z0 n n W)
    ?hJ ?hY z0 _ ?h0).mono ?post
  case hJ =>
    rintro k z W ⟨b, rfl, _⟩
    exact ⟨b.cbox.cellAt 0, b.dice⟩
  case h0 =>
    have hk := ((Keeps.refl (fun _ => False) W1).alloc (.deferred (some []))).alloc (.loop (rec .ready none))
    refine ⟨⟨⟨by omega, by omega, by omega, by omega, by omega, by simp⟩, hnb.out.keeps hk (fun h => h), ⟨none, 0, hlb.out.keeps hk (fun h => h), World.ownsRow_nil _ _ _ _⟩, hcb.out.keeps hk (fun h => h), ?_, ?_, ?_, hk0.out.trans (hk.mono (fun _ _ h => h.elim))⟩, (placeN_zero z0).symm, by omega⟩
    · rw [placeN_zero]; exact Whole.keeps hd0.out hk (fun h => h)
    · have := World.alloc_heap_new (W1.alloc (.deferred (some []))) (.loop (rec .ready none)); rwa [World.size_alloc] at this
    · exact (Below.heap_alloc _ _ _ (by simp)).trans (World.alloc_heap_new W1 _)
  case hY =>
    rintro k z W W' ⟨b, hz, hlt⟩ hd hk
    have b' := b.next hz hd hk
    subst hz
    clear hd hk b
    refine YieldAt.mono (R := fun e W' => (e = .returned (.bool true) ∧ (k + 1 < n ∧ Tk w w.heap.size lb cb W1.heap.size g n (.loop (rec .ready none)) z0 (k + 1) (k + 1) W')) ∨ (e = .returned (.bool false) ∧ ∃ c : Code, c = .exit 0 ∧ Tk w w.heap.size lb cb W1.heap.size g n (.loop (rec .done (some (.exit 0)))) z0 n n W')) ?yld ?mno
    case mno =>
      rintro e W3 (⟨he, hl, hb⟩ | ⟨he, c, _, hb⟩)
      · exact .inl ⟨he, hlt, _, hb, rfl, hl⟩
      · exact .inr ⟨he, hb⟩
    case yld =>
      apply yield_turn (J := fun W' => k + 1 < n ∧ Tk w w.heap.size lb cb W1.heap.size g n (.loop (rec .ready none)) z0 (k + 1) (k + 1) W') (Jx := fun c W' => c = .exit 0 ∧ Tk w w.heap.size lb cb W1.heap.size g n (.loop (rec .done (some (.exit 0)))) z0 n n W') hrec _ hfn b'.record rfl
      case hassign =>
        intro K hK
        gi_wp2
        with_reducible exact hK
      case hbody =>
        have b2 := Lib.hid (b'.turn (.loop (rec .busy none)))
        clear b' hrec hnb hlb hcb hk0 hd0
        generalize W'.putObj (W1.heap.size + 1) (.loop (rec .busy none)) = V at b2 ⊢
        generalize W1.heap.size = D at *
        obtain ⟨A, c, hw, hO⟩ := b2.out.lbox
        have iu : Hid (∃ i, Tryd.prog.info? 61 = some i ∧ i.zero = some (.int .u64 0) ∧ i.size = 1 ∧ i.bytes = 8) := Lib.hid info_u64E
        obtain ⟨iu, IU1, IU2, IU3, IU4⟩ := iu.out
        have HO := Lib.hid hO
        have hL := b2.out.order
        have c1 := hw.cellAt 0
        have cn := b2.out.nbox.cellAt 0
        clear hw hO
        by_cases hkn : ((k : Nat) : Int) + 1 = n
        · have hkb : (((k : Nat) : Int) + 1 == n) = true := by simp [hkn]
          gi_wp2_with (gi_at_builtin; go_must (refine wpListIn_append_own _ rfl (.tmp 18) (.tmp 20) 88 rfl (D + 2) 61 iu (.int .u64 0) 1 8 Tryd.underlying88 IU1 IU2 IU3 IU4 rfl (by decide) _ k _ rfl (HO.out.alloc _) ⟨V.heap.size, 0, none⟩ 1 1 [.int .u64 ((mix (adv (placeN k z0)) : Nat) : Int)] rfl rfl (one_cell V _ _) (by simp [Value.oneCell']) (by unfold maxLen; omega) (by omega) (by simp; omega) ?_); intro vv w2 hown' hgrow _; obtain ⟨A', c', rfl, _, _⟩ := own_slice hown'; obtain ⟨T, e1, e2, e3, e4⟩ := Tk.push b2.out HO.out hown' hgrow; rw [c1] at e1; replace T := Lib.hid T; clear hown' hgrow)
          obtain rfl : n = k + 1 := by omega
          exact ⟨T.out.record, rfl, T.out.turn _⟩
        · have hkb : (((k : Nat) : Int) + 1 == n) = false := by simp [hkn]
          gi_wp2_with (gi_at_builtin; go_must (refine wpListIn_append_own _ rfl (.tmp 18) (.tmp 20) 88 rfl (D + 2) 61 iu (.int .u64 0) 1 8 Tryd.underlying88 IU1 IU2 IU3 IU4 rfl (by decide) _ k _ rfl (HO.out.alloc _) ⟨V.heap.size, 0, none⟩ 1 1 [.int .u64 ((mix (adv (placeN k z0)) : Nat) : Int)] rfl rfl (one_cell V _ _) (by simp [Value.oneCell']) (by unfold maxLen; omega) (by omega) (by simp; omega) ?_); intro vv w2 hown' hgrow _; obtain ⟨A', c', rfl, _, _⟩ := own_slice hown'; obtain ⟨T, e1, e2, e3, e4⟩ := Tk.push b2.out HO.out hown' hgrow; rw [c1] at e1; replace T := Lib.hid T; clear hown' hgrow)
          exact ⟨T.out.record, by omega, T.out.turn _⟩
  case post =>
    rintro e V3 ⟨⟨v, rfl⟩, hb⟩
    refine rangePost_stop hrec hb.record ?_
    have b1 := Lib.hid (hb.turn (.loop (rec .exhausted (some (.exit 0)))))
    clear hb hrec hnb hlb hcb hk0 hd0
    generalize V3.putObj (W1.heap.size + 1) (.loop (rec .exhausted (some (.exit 0)))) = V4 at b1 ⊢
    generalize W1.heap.size = D at *
    obtain ⟨A, c, hw, hO⟩ := b1.out.lbox
    have HO := Lib.hid hO
    have c1 := hw.cellAt 0
    have m1 := Lib.hid b1.out.mark
    clear hw hO
    gi_wp2_with fail
    have hL := b1.out.order
    have k2 := (Keeps.refl (fun i => i = D) V4).putObj D (.deferred none) (fun _ => rfl)
    refine ⟨by simp, .inl ⟨_, _, rfl, run_takeDeferred m1.out, ?_⟩⟩
    refine ⟨.slice A n c, ?_, ⟨A, c, rfl, ?_⟩, b1.out.dice.keeps k2 (by omega), b1.out.keep.and k2 (fun b hb e => by omega)⟩
    · simp [results, Tryd.f47, go_sem]
    · exact own_base (own_keepsS HO.out k2 (fun b hb e => by have := (HO.out.lt b hb).1; omega)) (fun b hb => by have := (HO.out.lt b hb).1; omega)
set_option maxHeartbeats 1000000 in
theorem taken_none (g z0 : Nat) (w : World) (hd : DiceAt w g z0) :
    Calls Tryd.prog 47 #[.pointer (some ⟨g, 0, none⟩), .int .i64 (0 : Nat)] w fun e w' => (∃ A cap, e = .returned (.slice A (0 : Nat) cap) ∧ w'.ownsRow w.heap.size 61 1 (.slice A (0 : Nat) cap) 0 ((drawsOf z0 0).map (Value.int .u64))) ∧ DiceAt w' g (placeN 0 z0) ∧ Keeps (fun b => b = g) w w' := by
  refine (callsIn_wide (n := 30)).1 ?_
  refine callsIn_of_wp_marks Tryd.func47 rfl trivial ?_ rfl
  simp only [Tryd.ntmps47, List.size_toArray, List.length_cons, List.length_nil, Nat.reduceAdd, Nat.reduceSub, Array.replicate_succ, Array.replicate_zero, List.push_toArray, List.append_toArray, List.nil_append, List.cons_append]
  have HD := Lib.hid hd
  clear hd
  gi_wp2_with fail
  refine ⟨trivial, (callsIn_wide.2 (all_any _ _)).mono ?_⟩
  rintro e w' ⟨rfl, rfl⟩
  gi_wp2_with fail
  have k3 := (((Keeps.refl (fun b => b = g) w).alloc (.cells #[.int .i64 0] 3)).alloc (.cells #[.slice none 0 0] 88)).alloc (.cells #[.pointer (some ⟨g, 0, none⟩)] 63)
  have hd0 := Whole.keeps HD.out (((Keeps.refl (fun _ => False) w).alloc (.cells #[.int .i64 0] 3)).alloc (.cells #[.slice none 0 0] 88) |>.alloc (.cells #[.pointer (some ⟨g, 0, none⟩)] 63)) (fun h => h)
  refine ⟨.slice none 0 0, ?_, ⟨none, 0, rfl, by rw [List.length_eq_zero_iff.1 (drawsOf_length 0 z0)]; exact World.ownsRow_nil _ _ _ _⟩, by rw [placeN_zero]; exact hd0, k3⟩
  simp [results, Tryd.f47, go_sem]
theorem taken_any (g z0 n : Nat) (hn : n ≤ 1000) (w : World) (hd : DiceAt w g z0) :
    Calls Tryd.prog 47 #[.pointer (some ⟨g, 0, none⟩), .int .i64 (n : Nat)] w fun e w' => (∃ A cap, e = .returned (.slice A n cap) ∧ w'.ownsRow w.heap.size 61 1 (.slice A n cap) n ((drawsOf z0 n).map (Value.int .u64))) ∧ DiceAt w' g (placeN n z0) ∧ Keeps (fun b => b = g) w w' := by
  rcases n with _ | n
  · exact taken_none g z0 w hd
  · exact taken_some g z0 (n + 1) (by omega) hn w hd
end Go.Proofs.YtalngbdjabjahaaDoor
