/-
  The law KindsApart: the walk. Conditions: the text is no longer than Go's own limit.
-/
import Derived.Test.YtfcdbmfdaohpjaaKindL
namespace Go.Proofs.Ytfcdbmfdaohpjaa
open Go.RowKit
def sgIn (l : List Sg) (s : ByteArray) : Bool := amongOk (l.map Sg.name) s
theorem amongOk_mem : ∀ (ns : List ByteArray) (s : ByteArray), amongOk ns s = true → s ∈ ns
  | [], _, h => by unfold amongOk placeOf at h; cases h
  | x :: l, s, h => by
    by_cases e : x = s
    · subst e; exact List.mem_cons_self
    · unfold amongOk at h
      rw [placeOf, if_neg e] at h
      exact List.mem_cons_of_mem _ (amongOk_mem l s (by unfold amongOk; cases hp : placeOf l s with
        | none => rw [hp] at h; cases h
        | some i => rfl))
theorem amongOk_of : ∀ (ns : List ByteArray) (s : ByteArray), s ∈ ns → amongOk ns s = true
  | x :: l, s, h => by
    unfold amongOk
    by_cases e : x = s
    · rw [placeOf, if_pos e]; rfl
    · rw [placeOf, if_neg e]
      have h2 := amongOk_of l s ((List.mem_cons.1 h).resolve_left fun e' => e e'.symm)
      unfold amongOk at h2
      cases hp : placeOf l s with
      | none => rw [hp] at h2; cases h2
      | some i => rfl
theorem sgIn_yes {l : List Sg} {s : ByteArray} (h : sgIn l s = true) : ∃ (i : Nat) (a : Sg), l[i]? = some a ∧ a.name = s := by
  obtain ⟨a, ha, e⟩ := List.mem_map.1 (amongOk_mem _ _ h)
  obtain ⟨i, hi⟩ := List.getElem?_of_mem ha
  exact ⟨i, a, hi, e⟩
theorem sgIn_no {l : List Sg} {s : ByteArray} (h : sgIn l s = false) : ∀ a : Sg, a ∈ l → a.name ≠ s := fun a ha e => by
  have := amongOk_of (l.map Sg.name) s (List.mem_map.2 ⟨a, ha, e⟩)
  unfold sgIn at h
  rw [h] at this
  cases this
/-- What the two look-ups have in common: a number, four cells, and whether the name is one. -/
def Looked (w : World) (ok : Bool) (e : Ending) (w' : World) : Prop := ∃ (i : Int) (s : ByteArray) (A : Option Addr) (n : Nat) (t : Int) (v : Value), (v = .nilFunc ∨ ∃ f, v = .func (.func f) #[] #[]) ∧ e = .returned (.tuple #[.int .i64 i, .agg #[.string s, .slice A n n, .int .i8 t, v], .bool ok]) ∧ Below w.heap.size w w'
theorem func_looked (x : ByteArray) (w : World) (hx : x.size ≤ maxLen) (b : Bool) (hb : sgIn funcs x = b) : Calls Try.prog 8 #[.string x] w (Looked w b) := by
  cases b with
  | true =>
    obtain ⟨i, a, hi, e⟩ := sgIn_yes hb
    subst e
    have h := func_yes i a w hi
    exact h.mono fun e w' ⟨he, _, hb⟩ => ⟨i, a.name, some ⟨w.heap.size + 1 + i, 0, none⟩, a.args.length, a.tell, _, .inr ⟨a.gas, rfl⟩, he, hb⟩
  | false =>
    have h := func_no x w (sgIn_no hb) hx
    exact h.mono fun e w' ⟨he, hb⟩ => ⟨0, ⟨#[]⟩, none, 0, 0, .nilFunc, .inl rfl, he, hb⟩
theorem effect_looked (x : ByteArray) (w : World) (hx : x.size ≤ maxLen) (b : Bool) (hb : sgIn effects x = b) : Calls Try.prog 9 #[.string x] w (Looked w b) := by
  cases b with
  | true =>
    obtain ⟨i, a, hi, e⟩ := sgIn_yes hb
    subst e
    have h := effect_yes i a w hi
    exact h.mono fun e w' ⟨he, _, hb⟩ => ⟨i, a.name, some ⟨w.heap.size + 1 + i, 0, none⟩, a.args.length, a.tell, _, .inr ⟨a.gas, rfl⟩, he, hb⟩
  | false =>
    have h := effect_no x w (sgIn_no hb) hx
    exact h.mono fun e w' ⟨he, hb⟩ => ⟨0, ⟨#[]⟩, none, 0, 0, .nilFunc, .inl rfl, he, hb⟩
def hitT : ByteArray := ⟨#[104, 105, 116]⟩
def drawT : ByteArray := ⟨#[100, 114, 97, 119]⟩
def apartB (x : ByteArray) : Bool := !(amongOk events x && amongOk zones x) && !sgIn funcs x && (!sgIn effects x || decide (x.data = hitT.data) || decide (x.data = drawT.data))
theorem words_apart : words.all apartB = true := by decide +kernel
theorem events_words : events.all (amongOk words) = true := by decide +kernel
theorem zones_words : zones.all (amongOk words) = true := by decide +kernel
theorem sub_words {l : List ByteArray} {s : ByteArray} (hl : l.all (amongOk words) = true) (h : amongOk words s = false) : amongOk l s = false := by
  cases h2 : amongOk l s with
  | false => rfl
  | true =>
    have := List.all_eq_true.1 hl s (amongOk_mem l s h2)
    rw [h] at this; cases this
/-- What the law says of the five answers. -/
theorem apart_no {s : ByteArray} (h : amongOk words s = false) : amongOk events s = false ∧ amongOk zones s = false := ⟨sub_words events_words h, sub_words zones_words h⟩
theorem apart_yes {s : ByteArray} (h : amongOk words s = true) : (amongOk events s && amongOk zones s) = false ∧ sgIn funcs s = false ∧ (sgIn effects s = false ∨ s = hitT ∨ s = drawT) := by
  have h2 := List.all_eq_true.1 words_apart s (amongOk_mem words s h)
  unfold apartB at h2
  simp only [Bool.and_eq_true, Bool.not_eq_true', Bool.or_eq_true, decide_eq_true_eq] at h2
  obtain ⟨⟨h3, h4⟩, h5⟩ := h2
  refine ⟨h3, h4, ?_⟩
  rcases h5 with (h5 | h5) | h5
  · exact .inl h5
  · exact .inr (.inl (ByteArray.ext h5))
  · exact .inr (.inr (ByteArray.ext h5))
set_option maxHeartbeats 2000000 in
theorem kindsApart_any (s : ByteArray) (hs : s.size ≤ maxLen) (w : World) : Calls Try.prog 3 #[.string s] w fun e w' => e = .returned (.bool true) ∧ Below w.heap.size w w' := by
  have CE := fun w => events_any s w
  have CZ := fun w => zones_any s w
  have CW := fun w => words_any s w
  have CF := fun w => func_looked s w hs _ rfl
  have CX := fun w => effect_looked s w hs _ rfl
  have hno := @apart_no s
  have hyes := @apart_yes s
  generalize amongOk events s = bE at *
  generalize amongOk zones s = bZ at *
  generalize amongOk words s = bW at *
  generalize sgIn funcs s = bF at *
  generalize sgIn effects s = bX at *
  have key : (bW = false ∧ bE = false ∧ bZ = false) ∨ (bW = true ∧ (bE && bZ) = false ∧ bF = false ∧ bX = false) ∨ (bW = true ∧ (bE && bZ) = false ∧ bF = false ∧ bX = true ∧ (s = hitT ∨ s = drawT)) := by
    cases bW with
    | false => exact .inl ⟨rfl, hno rfl⟩
    | true =>
      obtain ⟨h1, h2, h3⟩ := hyes rfl
      cases bX with
      | false => exact .inr (.inl ⟨rfl, h1, h2, rfl⟩)
      | true => exact .inr (.inr ⟨rfl, h1, h2, rfl, h3.resolve_left (by simp)⟩)
  clear hno hyes
  have HE := Lib.hid CE; have HZ := Lib.hid CZ; have HWd := Lib.hid CW; have HF := Lib.hid CF; have HX := Lib.hid CX
  clear CE CZ CW CF CX
  have HK := Lib.hid key; clear key
  generalize amongAt events s = zE at *
  generalize amongAt zones s = zZ at *
  go_enter Try.func3, Try.ntmps3
  go_wp2_with fail
  refine (HE.out _).mono ?_
  rintro e w1 ⟨rfl, hb⟩
  have HB1 := Lib.hid hb; clear hb
  go_wp2_with fail
  refine (HZ.out _).mono ?_
  rintro e w2 ⟨rfl, hb⟩
  have HB2 := Lib.hid (belowThen' HB1.out hb); clear hb HB1
  go_wp2_with fail
  refine (HF.out _).mono ?_
  rintro e w3 ⟨i, n1, A, n, t, v, hv, rfl, hb⟩
  have HB3 := Lib.hid (belowThen' HB2.out hb); clear hb HB2
  rcases hv with rfl | ⟨f, rfl⟩
  all_goals
    go_wp2_with fail
    refine (HX.out _).mono ?_
    rintro e w4 ⟨i', n1', A', n', t', v', hv', rfl, hb⟩
    have HB4 := Lib.hid (belowThen' (HB3.out.alloc HB3.out.size _) hb); clear hb HB3
    rcases hv' with rfl | ⟨f', rfl⟩
    all_goals
      go_wp2_with fail
      refine (HWd.out _).mono ?_
      rintro e w5 ⟨rfl, hb⟩
      have HB5 := Lib.hid (belowThen' (HB4.out.alloc HB4.out.size _) hb); clear hb HB4 HE HZ HWd HF HX
      have hd1 : (hitT.toList == [104, 105, 116]) = true := by rw [ByteArray.toList_eq]; rfl
      have hd2 : (drawT.toList == [104, 105, 116]) = false := by rw [ByteArray.toList_eq]; rfl
      have hd3 : (drawT.toList == [100, 114, 97, 119]) = true := by rw [ByteArray.toList_eq]; rfl
      rcases HK.out with ⟨rfl, rfl, rfl⟩ | ⟨rfl, h1, rfl, rfl⟩ | ⟨rfl, h1, rfl, rfl, rfl | rfl⟩
      · clear HK
        go_wp2_with fail
        refine (lives_any _).mono ?_
        rintro e w6 ⟨rfl, hb⟩
        have HB6 := Lib.hid (belowThen' HB5.out hb)
        clear hb
        go_wp2_with fail
        go_ret
        exact ⟨rfl, HB6.out⟩
      all_goals
        clear HK
        cases bE <;> cases bZ <;> first | (cases h1; done) | skip
        all_goals
          clear h1
          go_wp2_with fail
          refine (lives_any _).mono ?_
          rintro e w6 ⟨rfl, hb⟩
          have HB6 := Lib.hid (belowThen' HB5.out hb)
          clear hb
          go_wp2_with fail
          go_ret
          exact ⟨rfl, HB6.out⟩
end Go.Proofs.Ytfcdbmfdaohpjaa
