/-
  The law DiceWalks: the walk. Conditions: none.
-/
import Derived.Test.YtalngbdjabjahaaStd
namespace Go.Proofs.Ytalngbdjabjahaa
open Go.RowKit Go.Shelf
attribute [local go_sem] Oper.semAt_some

set_option maxRecDepth 100000 in
set_option maxHeartbeats 4000000 in
theorem diceWalks_in (z f1 f2 : Nat) (h1 : f1 ≤ 200) (h2 : f2 ≤ 200) (w : World) :
    Calls Try.prog 7 #[.int .u64 (z : Nat), .int .i64 (f1 : Nat), .int .i64 (f2 : Nat)] w fun e w' => e = .returned (.bool true) ∧ Below w.heap.size w w' := by
  refine (callsIn_wide (n := 30)).1 ?_
  refine callsIn_of_wp_marks Try.func7 rfl trivial ?_ rfl
  simp only [Try.ntmps7, List.size_toArray, List.length_cons, List.length_nil, Nat.reduceAdd, Nat.reduceSub, Array.replicate_succ, Array.replicate_zero, List.push_toArray, List.append_toArray, List.nil_append, List.cons_append]
  have hq := all_not_nil
  gi_wp2_with fail
  refine ⟨trivial, (callsIn_wide.2 (new_rel z _)).mono ?_⟩
  rintro e w1 ⟨rfl, hd, hk⟩
  have ho1 := Whole.inside hd
  have a1 := ((Whole.made w 3 #[.int .i64 f1]).alloc (.cells #[.int .i64 f2] 3)).alloc (.cells #[.bool false] 4)
  have a2 := ((Whole.made (w.alloc (.cells #[.int .i64 f1] 3)) 3 #[.int .i64 f2])).alloc (.cells #[.bool false] 4)
  have a3 := (Whole.made ((w.alloc (.cells #[.int .i64 f1] 3)).alloc (.cells #[.int .i64 f2] 3)) 4 #[.bool false])
  have b1 := Lib.hid ((a1.keeps hk (fun h => h)).alloc (.cells #[.pointer (some ⟨w.heap.size + 1 + 1 + 1, 0, none⟩)] 39))
  have b2 := Lib.hid ((a2.keeps hk (fun h => h)).alloc (.cells #[.pointer (some ⟨w.heap.size + 1 + 1 + 1, 0, none⟩)] 39))
  have b3 := Lib.hid ((a3.keeps hk (fun h => h)).alloc (.cells #[.pointer (some ⟨w.heap.size + 1 + 1 + 1, 0, none⟩)] 39))
  have b4 := Lib.hid (hd.alloc (.cells #[.pointer (some ⟨w.heap.size + 1 + 1 + 1, 0, none⟩)] 39))
  have b5 := Lib.hid (Whole.made w1 39 #[.pointer (some ⟨w.heap.size + 1 + 1 + 1, 0, none⟩)])
  have b0 : Hid (Below w.heap.size w (w1.alloc (.cells #[.pointer (some ⟨w.heap.size + 1 + 1 + 1, 0, none⟩)] 39))) := Lib.hid (((((((Below.refl _ w).alloc (Nat.le_refl _) _).alloc (by simp) _).alloc (by simp; omega) _).trans (hk.below (by simp; omega) (fun _ h => h.elim)))).alloc (by simp at ho1; omega) _)
  clear hd hk a1 a2 a3
  gi_wp2_with fail
  refine ⟨trivial, (callsIn_wide.2 (new_rel z _)).mono ?_⟩
  rintro e w2 ⟨rfl, hd, hk⟩
  have ho2 := Whole.inside hd
  have ho3 := hk.size
  have HS : Hid (Std w w.heap.size (w.heap.size + 1) (w.heap.size + 1 + 1) w1.heap.size w2.heap.size (w.heap.size + 1 + 1 + 1) (w1.heap.size + 1) f1 f2 z z (w2.alloc (.cells #[.pointer (some ⟨w1.heap.size + 1, 0, none⟩)] 39))) := by
    simp only [World.size_alloc] at ho1 ho2 ho3
    refine Lib.hid ⟨⟨by omega, by omega, by omega, by omega, by omega, by omega, by omega⟩, (b1.out.keeps hk (fun h => h)).alloc _, ?_, ?_, (b5.out.keeps hk (fun h => h)).alloc _, Whole.made _ _ _, ?_, ?_, ?_⟩
    · have := (b2.out.keeps hk (fun h => h)).alloc (.cells #[.pointer (some ⟨w1.heap.size + 1, 0, none⟩)] 39)
      simpa using this
    · have := (b3.out.keeps hk (fun h => h)).alloc (.cells #[.pointer (some ⟨w1.heap.size + 1, 0, none⟩)] 39)
      simpa using this
    · have := (Whole.keeps b4.out hk (fun h => h)).alloc (.cells #[.pointer (some ⟨w1.heap.size + 1, 0, none⟩)] 39)
      simpa [DiceAt] using this
    · have := Whole.alloc hd (.cells #[.pointer (some ⟨w1.heap.size + 1, 0, none⟩)] 39)
      simpa [DiceAt] using this
    · exact (b0.out.trans (hk.below b0.out.size (fun _ h => h.elim))).alloc (by omega) _
  clear hd hk b0 b1 b2 b3 b4 b5 ho1 ho2 ho3
  have hc : (w2.alloc (.cells #[.pointer (some ⟨w1.heap.size + 1, 0, none⟩)] 39)).cell? ⟨w1.heap.size, 0, none⟩ = some (.pointer (some ⟨w.heap.size + 1 + 1 + 1, 0, none⟩)) := HS.out.dbox.cellAt 0
  gi_wp2_with fail
  refine ⟨trivial, (callsIn_wide.2 (all_any _ _)).mono ?_⟩
  rintro e w' ⟨rfl, rfl⟩
  generalize hW0 : w2.alloc (.cells #[.pointer (some ⟨w1.heap.size + 1, 0, none⟩)] 39) = W0 at HS hc ⊢
  clear hW0 hc
  generalize w1.heap.size = db at *
  have hcb := (Whole.made W0 39 #[.pointer (some ⟨w.heap.size + 1 + 1 + 1, 0, none⟩)]).alloc (.cells #[.int .i64 (0 : Nat)] 3)
  have hkb := Whole.made (W0.alloc (.cells #[.pointer (some ⟨w.heap.size + 1 + 1 + 1, 0, none⟩)] 39)) 3 #[.int .i64 (0 : Nat)]
  have HS1 := (HS.out.keeps (((Keeps.refl (fun _ => False) W0).alloc (.cells #[.pointer (some ⟨w.heap.size + 1 + 1 + 1, 0, none⟩)] 39)).alloc (.cells #[.int .i64 (0 : Nat)] 3)) (fun _ h => h.elim))
  have hsz0 := HS.out.size
  have hsz1 : ((W0.alloc (.cells #[.pointer (some ⟨w.heap.size + 1 + 1 + 1, 0, none⟩)] 39)).alloc (.cells #[.int .i64 (0 : Nat)] 3)).heap.size = W0.heap.size + 1 + 1 := by simp
  simp only [World.size_alloc] at hkb
  replace hcb := Lib.hid hcb
  replace hkb := Lib.hid hkb
  replace HS1 := Lib.hid HS1
  replace hsz1 := Lib.hid hsz1
  clear HS
  gi_wp2_with fail
  change Code.wpIn _ _ _ _ _ _ ((W0.alloc (.cells #[.pointer (some ⟨w.heap.size + 1 + 1 + 1, 0, none⟩)] 39)).alloc (.cells #[.int .i64 (0 : Nat)] 3))
  generalize (W0.alloc (.cells #[.pointer (some ⟨w.heap.size + 1 + 1 + 1, 0, none⟩)] 39)).alloc (.cells #[.int .i64 (0 : Nat)] 3) = W1 at hcb hkb HS1 hsz1 ⊢
  generalize W0.heap.size = cb at *
  generalize hg : w.heap.size + 1 + 1 + 1 = g at *
  generalize w.heap.size + 1 + 1 = rb at *
  generalize w.heap.size + 1 = sb at *
  generalize db + 1 = h at *
  generalize w2.heap.size = eb at *
  generalize hkbe : cb + 1 = kb at *
  refine wpIn_rangeFunc_turn rfl (by omega) (gf := 28) (lb := #[.pointer (some ⟨cb, 0, none⟩)]) rfl trivial (enters_of Try.func28 (by kernel_rfl) rfl) ?_
  intro fn rec hfn hrec
  refine (all1_turn 29 (by omega) (W1.heap.size + 1) cb g f1
    (fun k z W => Book w w.heap.size sb rb db eb g h f1 f2 cb kb W1.heap.size W1.heap.size (W1.heap.size + 1) (.loop (rec .ready none)) k z z W ∧ k ≤ f1)
    (fun W => ∃ z k, Book w w.heap.size sb rb db eb g h f1 f2 cb kb W1.heap.size W1.heap.size (W1.heap.size + 1) (.loop (rec .done (some (.exit 0)))) k z z W)
    ?hJ ?hY z _ ?h0).mono ?post
  case hJ =>
    rintro k z W ⟨b, _⟩
    exact ⟨b.cbox.cellAt 0, b.std.dice⟩
  case h0 =>
    refine ⟨⟨HS1.out.keeps (((Keeps.refl (fun _ => False) W1).alloc _).alloc _) (fun _ h => h.elim), ?_, (hcb.out.alloc _).alloc _, (hkb.out.alloc _).alloc _, ?_, ?_, ?_⟩, Nat.zero_le _⟩
    · have := hsz1.out; omega
    · have := World.alloc_heap_new (W1.alloc (.deferred (some []))) (.loop (rec .ready none)); rwa [World.size_alloc] at this
    · exact (Below.heap_alloc _ _ _ (by simp)).trans (World.alloc_heap_new W1 _)
    · exact (Below.heap_alloc _ _ _ (by simp)).trans (World.alloc_heap_new W1 _)
  case post =>
    rintro e V3 ⟨⟨v, rfl⟩, z', k, hb⟩
    refine rangePost_stop hrec hb.record ?_
    have b1 := Lib.hid (hb.turn (.loop (rec .exhausted (some (.exit 0)))))
    clear hb HS1 hcb hkb hrec
    replace hsz1 := hsz1.out
    generalize V3.putObj (W1.heap.size + 1) (.loop (rec .exhausted (some (.exit 0)))) = V4 at b1 ⊢
    generalize W1.heap.size = D at *
    have c1 := b1.out.kfree
    have c0 := b1.out.kcell
    have b2 := Lib.hid (b1.out.count 0 0 rfl)
    have c2 := b2.out.std.dcell
    clear b1
    gi_wp2_with fail
    refine ⟨trivial, (callsIn_wide.2 (all_any _ _)).mono ?_⟩
    rintro e w' ⟨rfl, rfl⟩
    have hb3 := b2.out.keeps ((Keeps.refl (fun _ => False) _).alloc (.cells #[.pointer (some ⟨g, 0, none⟩)] 39)) (fun _ h => h.elim)
    have hc3 := Whole.made (V4.setCell ⟨kb, 0, none⟩ (.int .i64 0)) 39 #[.pointer (some ⟨g, 0, none⟩)]
    have hL := b2.out.size
    have hs3 : ((V4.setCell ⟨kb, 0, none⟩ (.int .i64 0)).alloc (.cells #[.pointer (some ⟨g, 0, none⟩)] 39)).heap.size = (V4.setCell ⟨kb, 0, none⟩ (.int .i64 0)).heap.size + 1 := by simp
    generalize (V4.setCell ⟨kb, 0, none⟩ (.int .i64 0)).alloc (.cells #[.pointer (some ⟨g, 0, none⟩)] 39) = V5 at hb3 hc3 hs3 ⊢
    generalize (V4.setCell ⟨kb, 0, none⟩ (.int .i64 0)).heap.size = cb3 at *
    have B3 := Lib.hid hb3
    have C3 := Lib.hid hc3
    clear b2 hb3 hc3 c0 c1 c2
    gi_wp2_with fail
    refine wpIn_rangeFunc_turn rfl (by omega) (gf := 28) (lb := #[.pointer (some ⟨cb3, 0, none⟩)]) rfl trivial (enters_of Try.func28 (by kernel_rfl) rfl) ?_
    intro fn3 rec3 hfn3 hrec3
    refine (all1_turn 29 (by omega) (V5.heap.size + 1) cb3 g f2
      (fun k z W => Book w w.heap.size sb rb db eb g h f1 f2 cb3 kb V5.heap.size D (V5.heap.size + 1) (.loop (rec3 .ready none)) k z z W ∧ k ≤ f2)
      (fun W => ∃ z k, Book w w.heap.size sb rb db eb g h f1 f2 cb3 kb V5.heap.size D (V5.heap.size + 1) (.loop (rec3 .done (some (.exit 4)))) k z z W)
      ?hJ3 ?hY3 z' _ ?h03).mono ?post3
    case hJ3 =>
      rintro k z W ⟨b, _⟩
      exact ⟨b.cbox.cellAt 0, b.std.dice⟩
    case h03 =>
      have b := B3.out
      have hl := b.lie
      have hk := ((Keeps.refl (fun _ => False) V5).alloc (.deferred (some []))).alloc (.loop (rec3 .ready none))
      refine ⟨⟨b.std.keeps hk (fun _ h => h.elim), by omega, C3.out.keeps hk (fun h => h), b.kbox.keeps hk (fun h => h), ?_, ?_, (hk.block _ (heap_in b.mark) (fun h => h)).trans b.mark⟩, Nat.zero_le _⟩
      · have := World.alloc_heap_new (V5.alloc (.deferred (some []))) (.loop (rec3 .ready none)); rwa [World.size_alloc] at this
      · exact (Below.heap_alloc _ _ _ (by simp)).trans (World.alloc_heap_new V5 _)
    case hY3 =>
      rintro k z W W' ⟨b, hle⟩ hd hk
      have b' := b.nextg hd hk
      clear hd hk b
      refine YieldAt.mono (R := fun e W' => (e = .returned (.bool true) ∧ (k < f2 ∧ ∃ z', Book w w.heap.size sb rb db eb g h f1 f2 cb3 kb V5.heap.size D (V5.heap.size + 1) (.loop (rec3 .ready none)) (k + 1) z' z' W')) ∨ (e = .returned (.bool false) ∧ ∃ c : Code, c = .exit 4 ∧ ∃ z k, Book w w.heap.size sb rb db eb g h f1 f2 cb3 kb V5.heap.size D (V5.heap.size + 1) (.loop (rec3 .done (some (.exit 4)))) k z z W')) ?yld3 ?mno3
      case mno3 =>
        rintro e W3 (⟨he, hlt, z', hb⟩ | ⟨he, c, _, hb⟩)
        · exact .inl ⟨he, hlt, z', hb, hlt⟩
        · exact .inr ⟨he, hb⟩
      case yld3 =>
        apply yield_turn (J := fun W' => k < f2 ∧ ∃ z', Book w w.heap.size sb rb db eb g h f1 f2 cb3 kb V5.heap.size D (V5.heap.size + 1) (.loop (rec3 .ready none)) (k + 1) z' z' W') (Jx := fun c W' => c = .exit 4 ∧ ∃ z k, Book w w.heap.size sb rb db eb g h f1 f2 cb3 kb V5.heap.size D (V5.heap.size + 1) (.loop (rec3 .done (some (.exit 4)))) k z z W') hrec3 _ hfn3 b'.record rfl
        case hassign =>
          intro K hK
          gi_wp2
          with_reducible exact hK
        case hbody =>
          have b2 := Lib.hid (b'.turn (.loop (rec3 .busy none)))
          clear b' hrec3
          generalize W'.putObj (V5.heap.size + 1) (.loop (rec3 .busy none)) = V at b2 ⊢
          have c1 := b2.out.std.ecell
          gi_wp2_with fail
          refine ⟨trivial, (CallsIn.inRound _ (callsIn_wide.2 (next_rel h _ _ b2.out.std.other))).mono ?_⟩
          rintro e X' ⟨rfl, hd, hk⟩
          have b3 := Lib.hid (b2.out.nexth hd hk)
          clear hd hk b2 c1
          have c1 := b3.out.kcell
          have c2 := b3.out.kfree
          have b5 := Lib.hid (b3.out.count (k + 1) ((k : Int) + 1) (by omega))
          have c3 := b5.out.std.scell
          by_cases hkf : (f2 : Int) < (k : Int) + 1
          · gi_wp2_with fail
            exact ⟨b5.out.record, rfl, adv z, k + 1, b5.out.turn _⟩
          · gi_wp2_with fail
            exact ⟨b5.out.record, by omega, adv z, b5.out.turn _⟩
    case post3 =>
      rintro e V6 ⟨⟨v, rfl⟩, z3, k3, hb⟩
      refine rangePost_stop hrec3 hb.record ?_
      have b6 := Lib.hid (hb.turn (.loop (rec3 .exhausted (some (.exit 4)))))
      clear hb hrec3 B3 C3
      generalize V6.putObj (V5.heap.size + 1) (.loop (rec3 .exhausted (some (.exit 4)))) = V7 at b6 ⊢
      have B := Lib.hid (b6.out.keeps (Keeps.refl (fun _ => False) V7).drew (fun _ h => h.elim))
      clear b6
      have c1 := B.out.std.ecell
      have c2 := B.out.std.dcell
      have hmix : Try.prog.follows .mixedOrders = true := by kernel_rfl
      gi_wp2_with fail
      apply wpIn_cut _ (fun X => ∃ V' z4, X = V'.setCell ⟨rb, 0, none⟩ (.bool true) ∧ Hid (Book w w.heap.size sb rb db eb g h f1 f2 cb3 kb V5.heap.size D (V5.heap.size + 1) (.loop (rec3 .exhausted (some (.exit 4)))) k3 z4 z4 V'))
      case h1 =>
        gi_region_with_o (first
          | (refine ⟨trivial, ?_⟩; with_reducible refine CallsIn.mono (callsIn_wide.2 (next_rel g _ _ B.out.std.dice)) ?_; rintro e V' ⟨rfl, hd, hk⟩; replace B := Lib.hid (B.out.nextg hd hk); clear hd hk; have c1 := B.out.std.ecell; have c2 := B.out.std.dcell; have c3 := B.out.std.rcell; have c4 := B.out.std.rfree)
          | (refine ⟨trivial, ?_⟩; with_reducible refine CallsIn.mono (callsIn_wide.2 (next_rel h _ _ B.out.std.other)) ?_; rintro e V' ⟨rfl, hd, hk⟩; replace B := Lib.hid (B.out.nexth hd hk); clear hd hk; have c1 := B.out.std.ecell; have c2 := B.out.std.dcell; have c3 := B.out.std.rcell; have c4 := B.out.std.rfree)
          | (refine ⟨trivial, ?_⟩; with_reducible refine CallsIn.mono (callsIn_wide.2 (lives_any _)) ?_; rintro e V' ⟨rfl, hb⟩; replace B := Lib.hid (B.out.keeps (keepsAll (S := fun _ => False) hb) (fun _ h => h.elim)); clear hb; have c1 := B.out.std.ecell; have c2 := B.out.std.dcell; have c3 := B.out.std.rcell; have c4 := B.out.std.rfree))
        all_goals exact cut_end ⟨rfl, _, _, rfl, B⟩
      case h2 =>
        rintro X ⟨V8, z4, rfl, B⟩
        gi_wp2_with fail
        have b := B.out
        have ho := b.lie
        have ho' := b.std.order
        have k1 := (Keeps.refl (fun i => i = rb) V8).setCell (p := ⟨rb, 0, none⟩) (fun _ => rfl) (.bool true)
        have m1 := (k1.block _ (heap_in b.later) (fun e => by omega)).trans b.later
        have m2 := (k1.block _ (heap_in b.mark) (fun e => by omega)).trans b.mark
        rw [hs3] at m1
        rw [hsz1] at m2
        have hc := World.cell?_setCell_same' V8 ⟨rb, 0, none⟩ (.bool true) (by rw [b.std.rcell]; rfl)
        have hin := Nat.lt_of_lt_of_le (heap_in b.std.result) k1.size
        have hbel := b.std.below.trans (k1.below b.std.below.size (fun k e => by omega))
        generalize V8.setCell ⟨rb, 0, none⟩ (.bool true) = X at *
        have m2' : (X.putObj (cb3 + 1) (.deferred none)).heap[kb + 1]? = some (.deferred (some [])) := (World.putObj_heap_other (by omega)).trans m2
        have k2 := ((Keeps.refl (fun i => i = cb3 + 1 ∨ i = kb + 1) X).putObj (cb3 + 1) (.deferred none) (fun _ => .inl rfl)).putObj (kb + 1) (.deferred none) (fun _ => .inr rfl)
        have hr := (k2.cell (b := rb) (o := 0) hin (fun e => by omega)).trans hc
        refine ⟨by simp, .inl ⟨_, _, rfl, run_takeDeferred m1, ?_⟩⟩
        refine ⟨by simp, .inl ⟨_, _, rfl, run_takeDeferred m2', ?_⟩⟩
        refine ⟨.bool true, ?_, rfl, hbel.trans (k2.below hbel.size (fun k e => by omega))⟩
        simp [results, Try.f7, go_sem, hr]
  case hY =>
    rintro k z W W' ⟨b, hle⟩ hd hk
    have b' := b.nextg hd hk
    clear hd hk b
    refine YieldAt.mono (R := fun e W' => (e = .returned (.bool true) ∧ (k < f1 ∧ ∃ z', Book w w.heap.size sb rb db eb g h f1 f2 cb kb W1.heap.size W1.heap.size (W1.heap.size + 1) (.loop (rec .ready none)) (k + 1) z' z' W')) ∨ (e = .returned (.bool false) ∧ ∃ c : Code, c = .exit 0 ∧ ∃ z k, Book w w.heap.size sb rb db eb g h f1 f2 cb kb W1.heap.size W1.heap.size (W1.heap.size + 1) (.loop (rec .done (some (.exit 0)))) k z z W')) ?yld ?mno
    case mno =>
      rintro e W3 (⟨he, hlt, z', hb⟩ | ⟨he, c, _, hb⟩)
      · exact .inl ⟨he, hlt, z', hb, hlt⟩
      · exact .inr ⟨he, hb⟩
    case yld =>
      apply yield_turn (J := fun W' => k < f1 ∧ ∃ z', Book w w.heap.size sb rb db eb g h f1 f2 cb kb W1.heap.size W1.heap.size (W1.heap.size + 1) (.loop (rec .ready none)) (k + 1) z' z' W') (Jx := fun c W' => c = .exit 0 ∧ ∃ z k, Book w w.heap.size sb rb db eb g h f1 f2 cb kb W1.heap.size W1.heap.size (W1.heap.size + 1) (.loop (rec .done (some (.exit 0)))) k z z W') hrec _ hfn b'.record rfl
      case hassign =>
        intro K hK
        gi_wp2
        with_reducible exact hK
      case hbody =>
        have b2 := b'.turn (.loop (rec .busy none))
        clear b' hrec
        generalize W'.putObj (W1.heap.size + 1) (.loop (rec .busy none)) = V at b2 ⊢
        have b3 := b2.keeps (Keeps.refl (fun _ => False) V).drew (fun _ h => h.elim)
        have B := Lib.hid b3
        have c1 : V.drew.cell? ⟨eb, 0, none⟩ = some (.pointer (some ⟨h, 0, none⟩)) := b3.std.ebox.cellAt 0
        have c2 : V.drew.cell? ⟨db, 0, none⟩ = some (.pointer (some ⟨g, 0, none⟩)) := b3.std.dbox.cellAt 0
        have hmix : Try.prog.follows .mixedOrders = true := by kernel_rfl
        clear b2 b3
        gi_wp2_with fail
        apply wpIn_cut _ (fun V' => Hid (Book w w.heap.size sb rb db eb g h f1 f2 cb kb W1.heap.size W1.heap.size (W1.heap.size + 1) (.loop (rec .busy none)) k (adv (adv z)) (adv (adv z)) V'))
        case h1 =>
          gi_region_with_o (first
            | (refine ⟨trivial, ?_⟩; with_reducible refine CallsIn.mono (CallsIn.inRound _ (callsIn_wide.2 (next_rel g _ _ B.out.std.dice))) ?_; rintro e V' ⟨rfl, hd, hk⟩; replace B := Lib.hid (B.out.nextg hd hk); clear hd hk; have c1 := B.out.std.ecell; have c2 := B.out.std.dcell)
            | (refine ⟨trivial, ?_⟩; with_reducible refine CallsIn.mono (CallsIn.inRound _ (callsIn_wide.2 (next_rel h _ _ B.out.std.other))) ?_; rintro e V' ⟨rfl, hd, hk⟩; replace B := Lib.hid (B.out.nexth hd hk); clear hd hk; have c1 := B.out.std.ecell; have c2 := B.out.std.dcell))
          all_goals exact cut_end ⟨rfl, B⟩
        case h2 =>
          intro V' B
          have c1 := B.out.std.ecell
          have c2 := B.out.std.dcell
          generalize adv (adv z) = y at *
          gi_wp2_with fail
          refine ⟨trivial, (CallsIn.inRound _ (callsIn_wide.2 (all_any _ _))).mono ?_⟩
          rintro e w' ⟨rfl, rfl⟩
          have hB2 := B.out.keeps ((Keeps.refl (fun _ => False) V').alloc (.cells #[.pointer (some ⟨g, 0, none⟩)] 39)) (fun _ h => h.elim)
          have hc2 := Whole.made V' 39 #[.pointer (some ⟨g, 0, none⟩)]
          have hL := B.out.size
          have hs2 : (V'.alloc (.cells #[.pointer (some ⟨g, 0, none⟩)] 39)).heap.size = V'.heap.size + 1 := by simp
          generalize V'.alloc (.cells #[.pointer (some ⟨g, 0, none⟩)] 39) = V2 at hB2 hc2 hs2 ⊢
          generalize V'.heap.size = cb2 at *
          have B2 := Lib.hid hB2
          have C2 := Lib.hid hc2
          clear B hB2 hc2 c1 c2
          gi_wp2_with fail
          refine wpIn_rangeFunc_turnN rfl B2.out.record (by omega) (gf := 28) (lb := #[.pointer (some ⟨cb2, 0, none⟩)]) rfl trivial (enters_of Try.func28 (by kernel_rfl) rfl) ?_
          intro fn2 rec2 hfn2 hrec2
          refine CallsIn.mono (CallsIn.inRound _ (all1_turn 27 (by omega) V2.heap.size cb2 g 0
            (fun j x W => (Book w w.heap.size sb rb db eb g h f1 f2 cb kb W1.heap.size W1.heap.size (W1.heap.size + 1) (.loop (rec .busy none)) k x y W ∧ x = y) ∧ Whole W cb2 39 #[.pointer (some ⟨g, 0, none⟩)] ∧ W.heap[V2.heap.size]? = some (.loop (rec2 .ready none)))
            (fun W => Book w w.heap.size sb rb db eb g h f1 f2 cb kb W1.heap.size W1.heap.size (W1.heap.size + 1) (.loop (rec .busy none)) k (adv y) (adv y) W ∧ W.heap[V2.heap.size]? = some (.loop (rec2 .done (some (.exit 2)))))
            ?hJ2 ?hY2 y _ ?h02)) ?post2
          case hJ2 =>
            rintro j x W ⟨⟨b, _⟩, c, _⟩
            exact ⟨c.cellAt 0, b.std.dice⟩
          case h02 =>
            refine ⟨⟨B2.out.keeps ((Keeps.refl (fun _ => False) V2).alloc _) (fun _ h => h.elim), rfl⟩, C2.out.alloc _, World.alloc_heap_new _ _⟩
          case hY2 =>
            rintro j x W W' ⟨⟨b, rfl⟩, c, hl⟩ hd hk
            have ho := b.lie
            have ho' := b.std.order
            have b' := Lib.hid (b.nextg hd hk)
            have hl' := Lib.hid ((hk.block V2.heap.size (heap_in hl) (fun e => by omega)).trans hl)
            clear hk hd hl c b
            refine YieldAt.mono (R := fun e W' => (e = .returned (.bool true) ∧ False) ∨ (e = .returned (.bool false) ∧ ∃ c : Code, c = .exit 2 ∧ Book w w.heap.size sb rb db eb g h f1 f2 cb kb W1.heap.size W1.heap.size (W1.heap.size + 1) (.loop (rec .busy none)) k (adv x) (adv x) W' ∧ W'.heap[V2.heap.size]? = some (.loop (rec2 .done (some (.exit 2)))))) ?yld2 ?mno2
            case mno2 =>
              rintro e W3 (⟨_, hf⟩ | ⟨he, c, _, hb⟩)
              · exact hf.elim
              · exact .inr ⟨he, hb⟩
            case yld2 =>
              apply yield_turn (J := fun _ => False) (Jx := fun c W' => c = .exit 2 ∧ Book w w.heap.size sb rb db eb g h f1 f2 cb kb W1.heap.size W1.heap.size (W1.heap.size + 1) (.loop (rec .busy none)) k (adv x) (adv x) W' ∧ W'.heap[V2.heap.size]? = some (.loop (rec2 .done (some (.exit 2))))) hrec2 _ hfn2 hl'.out rfl
              case hassign =>
                intro K hK
                gi_wp2
                with_reducible exact hK
              case hbody =>
                have hk2 := (Keeps.refl (fun i => i = V2.heap.size) W').putObj V2.heap.size (.loop (rec2 .busy none)) (fun _ => rfl)
                have b2 := Lib.hid (b'.out.keeps hk2 (fun i e => by omega))
                have hl2 : Hid ((W'.putObj V2.heap.size (.loop (rec2 .busy none))).heap[V2.heap.size]? = some (.loop (rec2 .busy none))) := Lib.hid (World.putObj_heap_same (heap_in hl'.out))
                clear hk2 b' hl'
                generalize W'.putObj V2.heap.size (.loop (rec2 .busy none)) = X at b2 hl2 ⊢
                have c1 := b2.out.std.ecell
                gi_wp2_with fail
                refine ⟨trivial, (CallsIn.inRound _ (callsIn_wide.2 (next_rel h _ _ b2.out.std.other))).mono ?_⟩
                rintro e X' ⟨rfl, hd, hk⟩
                have b3 := Lib.hid (b2.out.nexth hd hk)
                have hl3 := Lib.hid ((hk.block V2.heap.size (heap_in hl2.out) (fun e => by omega)).trans hl2.out)
                clear hd hk b2 hl2 c1
                gi_wp2_with fail
                refine ⟨hl3.out, rfl, b3.out.keeps ((Keeps.refl (fun i => i = V2.heap.size) X').putObj V2.heap.size _ (fun _ => rfl)) (fun i e => by omega), World.putObj_heap_same (heap_in hl3.out)⟩
          case post2 =>
            rintro e V3 ⟨⟨v, rfl⟩, hB3, hl3⟩
            refine rangePost_stop hrec2 hl3 ?_
            have hlt : W1.heap.size + 1 < V2.heap.size := by omega
            have B4 := Lib.hid (hB3.keeps ((Keeps.refl (fun i => i = V2.heap.size) V3).putObj V2.heap.size (.loop (rec2 .exhausted (some (.exit 2)))) (fun _ => rfl)) (fun i e => by omega))
            clear hB3 hl3 B2 C2
            generalize V3.putObj V2.heap.size (.loop (rec2 .exhausted (some (.exit 2)))) = V4 at B4 ⊢
            have c1 := B4.out.kcell
            have c2 := B4.out.kfree
            have B5 := Lib.hid (B4.out.count (k + 1) ((k : Int) + 1) (by omega))
            have c3 := B5.out.std.fcell
            by_cases hkf : (f1 : Int) < (k : Int) + 1
            · gi_wp2_with fail
              exact ⟨B5.out.record, rfl, adv y, k + 1, B5.out.turn _⟩
            · gi_wp2_with fail
              exact ⟨B5.out.record, by omega, adv y, B5.out.turn _⟩
end Go.Proofs.Ytalngbdjabjahaa
