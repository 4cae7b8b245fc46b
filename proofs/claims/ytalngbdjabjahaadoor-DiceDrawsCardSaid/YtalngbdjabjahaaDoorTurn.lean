/-
  A range over a function whose iterator and body turn the same cells: the laws. Conditions: none.
-/
import Derived.RangeFuncNested
namespace Go.Proofs.YtalngbdjabjahaaDoor
open Go.RowKit
variable {F : Fence} {n : Nat} {P : Program}

/-- A loop's record, by its state and the jump that pends. -/
def recOf (fn : FuncId) (tmps : Array Value) (ps : Array Tmp) (assign body : Code) (d : Nat) (st : LoopState) (pe : Option Code) : Loop :=
  { state := st, pending := pe, fn, tmps, params := ps, assign, body, defers := d }

/-- How a round of loop l may be left: off its end, in J; by a jump, in Jx. -/
def turnPost (l : Nat) (rec : LoopState → Option Code → Loop) (J : World → Prop) (Jx : Code → World → Prop) : Exit → Act → World → Prop
  | .normal, _, W => W.heap[l]? = some (.loop (rec .busy none)) ∧ J (W.putObj l (.loop (rec .ready none)))
  | .ret, _, W => W.heap[l]? = some (.loop (rec .busy none)) ∧ Jx .ret (W.putObj l (.loop (rec .done (some .ret))))
  | .exit id, _, W => W.heap[l]? = some (.loop (rec .busy none)) ∧ Jx (.exit id) (W.putObj l (.loop (rec .done (some (.exit id)))))
  | .goto t, _, W => W.heap[l]? = some (.loop (rec .busy none)) ∧ Jx (.goto t) (W.putObj l (.loop (rec .done (some (.goto t)))))
  | .panic _, _, _ => False
  | .outgrown, _, _ => False

/-- One round, out of its body's walk. -/
theorem yield_turn {l : Nat} {fn : FuncId} {tmps : Array Value} {ps : Array Tmp} {assign body : Code} {d : Nat} {rec : LoopState → Option Code → Loop} (hrec : rec = recOf fn tmps ps assign body d) {args : Array Value} {W : World} {J : World → Prop} {Jx : Code → World → Prop} (a₁ : Act)
    (hF : F.fn fn) (hl : W.heap[l]? = some (.loop (rec .ready none))) (hps : args.size = ps.size)
    (hassign : ∀ K : Act → World → Prop, K a₁ W → assign.wpIn (F.inRound l) n P (Exit.then K (fun _ _ _ => False)) { tmps := (ps.zip args).foldl (fun t (p, v) => t.setIfInBounds p v) tmps, defers := [] } W)
    (hbody : body.wpIn (F.inRound l) n P (turnPost l rec J Jx) a₁ (W.putObj l (.loop (rec .busy none)))) :
    YieldAt F n P l args W fun e W' => (e = .returned (.bool true) ∧ J W') ∨ (e = .returned (.bool false) ∧ ∃ c, Jx c W') := by
  subst hrec
  have hy := run_yield (P := P) (args := args) hl hps
  refine ⟨fn, _, assign, body, hy, roundIn_of_wpIn hF (hassign _ ⟨_, run_beginRound hl rfl, ?_⟩)⟩
  refine wpIn_mono hbody ?_
  rintro e a3 W3 hp
  cases e with
  | normal => obtain ⟨hl3, hj⟩ := hp; exact ⟨_, _, run_endRound none hl3, .inl ⟨rfl, hj⟩⟩
  | ret => obtain ⟨hl3, hj⟩ := hp; exact ⟨_, _, run_endRound (some .ret) hl3, .inr ⟨rfl, _, hj⟩⟩
  | exit id => obtain ⟨hl3, hj⟩ := hp; exact ⟨_, _, run_endRound (some (.exit id)) hl3, .inr ⟨rfl, _, hj⟩⟩
  | goto t => obtain ⟨hl3, hj⟩ := hp; exact ⟨_, _, run_endRound (some (.goto t)) hl3, .inr ⟨rfl, _, hj⟩⟩
  | panic ch => exact hp.elim
  | outgrown => exact hp.elim

/-- The iterator has returned, a jump pending. -/
theorem rangePost_stop {l : Nat} {fn : FuncId} {tmps : Array Value} {ps : Array Tmp} {assign body : Code} {d : Nat} {rec : LoopState → Option Code → Loop} (hrec : rec = recOf fn tmps ps assign body d) {c : Code} {v : Value} {W : World} {Q : Exit → Act → World → Prop} {a : Act}
    (hl : W.heap[l]? = some (.loop (rec .done (some c))))
    (h : c.wpIn F n P Q a (W.putObj l (.loop (rec .exhausted (some c))))) :
    rangePost F n P l Q a (.returned v) W := by
  subst hrec
  exact ⟨some c, _, run_endLoop hl (by simp [recOf]), h⟩

/-- A piece of code that ends in one frame, whatever way it goes. -/
theorem wpIn_cut {c : Code} {Q : Exit → Act → World → Prop} {a : Act} {w : World} (fr : Act) (B : World → Prop)
    (h1 : c.wpIn F n P (Exit.then (fun a' w' => a' = fr ∧ B w') (fun _ _ _ => False)) a w) (h2 : ∀ w', B w' → Q .normal fr w') : c.wpIn F n P Q a w :=
  wpIn_mono h1 (by
    intro e a' w' h
    cases e with
    | normal => obtain ⟨rfl, hb⟩ := h; exact h2 _ hb
    | ret => exact h.elim
    | exit _ => exact h.elim
    | goto _ => exact h.elim
    | panic _ => exact h.elim
    | outgrown => exact h.elim)
theorem cut_end {fr a : Act} {B : World → Prop} {w : World} (h : a = fr ∧ B w) : Exit.then (fun a' w' => a' = fr ∧ B w') (fun _ _ _ => False) .normal a w := h

/-- The statement, at no round. -/
theorem wpIn_rangeFunc_turn {g : Operand} {ps : Array Tmp} {assign body : Code} {Q : Exit → Act → World → Prop} {a : Act} {w : World}
    (hro : F.round = none) (h1 : 1 ≤ n) {gf : Nat} {lb : Array Value} (hg : a.eval g = .func (.func gf) #[] lb) (hFg : F.fn gf) (eg : ∀ args w, (callFunc gf args).run P w = .ok (.enter gf args) w)
    (h : ∀ fn rec, F.fn fn → rec = recOf fn a.tmps ps assign body w.heap.size → CallsIn F (n - 1) P gf (#[.func (.yield (w.heap.size + 1)) #[] #[]] ++ lb)
      ((w.alloc (.deferred (some []))).alloc (.loop (rec .ready none)))
      (rangePost F n P (w.heap.size + 1) Q { a with defers := { target := .collected w.heap.size, args := #[] } :: a.defers })) :
    (Code.rangeFunc g ps assign body).wpIn F n P Q a w := by
  refine wpIn_rangeFunc ?_
  intro fn hfn
  rw [hro]
  have H := h fn _ hfn rfl
  have he : (Instr.enterLoop fn a.tmps ps assign body none).run P w = .ok (w.heap.size + 1, [{ target := .collected w.heap.size, args := #[] }]) ((w.alloc (.deferred (some []))).alloc (.loop (recOf fn a.tmps ps assign body w.heap.size .ready none))) := run_enterLoop_outer _ _ _ _ _
  clear h
  generalize ((w.alloc (.deferred (some []))).alloc (.loop (recOf fn a.tmps ps assign body w.heap.size .ready none))) = W1 at H he
  refine ⟨w.heap.size + 1, [{ target := .collected w.heap.size, args := #[] }], W1, { target := .fn (.func gf) lb, args := #[.func (.yield (w.heap.size + 1)) #[] #[]] }, W1, gf,
    #[.func (.yield (w.heap.size + 1)) #[] #[]] ++ lb, W1, he, ?_, ?_, ?_, fun _ => h1, ?_⟩
  · simp only [resolve, hg]
    simp [go_sem]
  · intro f' hf'; simp [Target.leads] at hf'; subst hf'; exact hFg
  · simp [invoke, go_sem, eg]
  · exact H

/-- The statement, in a round of loop l₀. -/
theorem wpIn_rangeFunc_turnN {g : Operand} {ps : Array Tmp} {assign body : Code} {Q : Exit → Act → World → Prop} {a : Act} {w : World}
    {l₀ : Nat} {r₀ : Loop} (hro : F.round = some l₀) (hl₀ : w.heap[l₀]? = some (.loop r₀)) (h1 : 1 ≤ n) {gf : Nat} {lb : Array Value} (hg : a.eval g = .func (.func gf) #[] lb) (hFg : F.fn gf) (eg : ∀ args w, (callFunc gf args).run P w = .ok (.enter gf args) w)
    (h : ∀ fn rec, F.fn fn → rec = recOf fn a.tmps ps assign body r₀.defers → CallsIn F (n - 1) P gf (#[.func (.yield w.heap.size) #[] #[]] ++ lb)
      (w.alloc (.loop (rec .ready none)))
      (rangePost F n P w.heap.size Q a)) :
    (Code.rangeFunc g ps assign body).wpIn F n P Q a w := by
  refine wpIn_rangeFunc ?_
  intro fn hfn
  rw [hro]
  have H := h fn _ hfn rfl
  have he : (Instr.enterLoop fn a.tmps ps assign body (some l₀)).run P w = .ok (w.heap.size, []) (w.alloc (.loop (recOf fn a.tmps ps assign body r₀.defers .ready none))) := run_enterLoop_inner hl₀ _ _ _ _ _
  clear h
  generalize (w.alloc (.loop (recOf fn a.tmps ps assign body r₀.defers .ready none))) = W1 at H he
  refine ⟨w.heap.size, [], W1, { target := .fn (.func gf) lb, args := #[.func (.yield w.heap.size) #[] #[]] }, W1, gf,
    #[.func (.yield w.heap.size) #[] #[]] ++ lb, W1, he, ?_, ?_, ?_, fun _ => h1, ?_⟩
  · simp only [resolve, hg]
    simp [go_sem]
  · intro f' hf'; simp [Target.leads] at hf'; subst hf'; exact hFg
  · simp [invoke, go_sem, eg]
  · exact H
end Go.Proofs.YtalngbdjabjahaaDoor
