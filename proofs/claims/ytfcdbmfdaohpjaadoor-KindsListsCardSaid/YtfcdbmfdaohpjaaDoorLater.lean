/-
  A region that draws its order and holds calls that make memory but turn none that was there: it is walked once, in the order of the text, in whatever later world. Conditions: its other operations only read.
-/
import Derived.Test.YtfcdbmfdaohpjaaDoorMem
import Derived.Deep.QuietTactic
import Derived.BigQuiet
namespace Go.Proofs.YtfcdbmfdaohpjaaDoor
open Go.RowKit

/-- A later world: what was there is as it was. -/
def Later (w : World) : Type := { w' : World // Below w.heap.size w w' }
def Later.w {w : World} (r : Later w) : World := r.1
theorem Later.below {w : World} (r : Later w) : Below w.heap.size w r.w := r.2
theorem later_some (w : World) : Nonempty (Later w) := ⟨⟨w, Below.refl _ _⟩⟩
theorem later_calls {P : Program} {f : FuncId} {args : Array Value} {w : World} {r : Later w} {v : Value}
    (h : Calls P f args r.w fun e w' => e = .returned v ∧ Below (r.w).heap.size r.w w') : Calls P f args r.w fun e w'' => e = .returned v ∧ ∃ r' : Later w, w'' = r'.w :=
  h.mono fun _ w'' ⟨he, hb⟩ => ⟨he, ⟨⟨w'', belowThen' r.2 hb⟩, rfl⟩⟩
theorem later_same {P : Program} {f : FuncId} {args : Array Value} {w : World} {r : Later w} {v : Value}
    (h : Calls P f args r.w fun e w' => e = .returned v ∧ r.w = w') : Calls P f args r.w fun e w'' => e = .returned v ∧ ∃ r' : Later w, w'' = r'.w :=
  h.mono fun _ _ ⟨he, hb⟩ => ⟨he, r, hb.symm⟩
section
variable {P : Program}
theorem region_later {id : Nat} {Q : Exit → Act → World → Prop} {a : Act} {w : World} {l : List Oper} (hm : P.follows .mixedOrders = true) (hB : Region.lexB .any l.toArray = true)
    (h : wpQuiet P l.toArray (fun w' => ∃ r : Later w, w' = r.w) (fun a' => ∀ w', (∃ r : Later w, w' = r.w) → Q .normal a' w') l a) : (Code.region id l.toArray true).wp P Q a w :=
  wp_region_quiet (C := fun w' => ∃ r : Later w, w' = r.w) hm hB ⟨⟨w.drew, (Below.refl _ _).drew⟩, rfl⟩ (by simpa using h)
/-- A whole array read in it. -/
theorem quiet_load_whole {ops : Array Oper} {C : World → Prop} {Q : Act → Prop} {a : Act} {o : Oper} {rest : List Oper} (hw : Region.wanted o (yielded ops a.tmps) = true) (ty : TypeId) (x : Operand) (ho : o.op = .load ty x)
    (g : Nat) (hx : a.eval x = .pointer (some ⟨g, 0, none⟩)) (t : TypeId) (cs : Array Value) (d : TypeDesc) (hg : ∀ w, C w → Whole w g t cs)
    (hu : P.underlying ty = some d) (hd : (match d with | .struct _ | .array _ _ => true | _ => false) = true) (hi : (P.info? ty).map (·.size) = some cs.size)
    (h : wpQuiet P ops C Q rest (a.put o.dst (.agg cs))) : wpQuiet P ops C Q (o :: rest) a :=
  wpQuiet_step fun K hK => by
    rw [if_pos hw]
    refine ⟨_, fun w hw' => ?_, hK _ h⟩
    unfold Oper.quietAt execOp
    simp only [ho, hx, Instr.loadAt, Instr.sureAddr, Sem.run_bind, Sem.run_pure, Result.andThen_ok, run_loadVar_row w g t ty cs (0, 0) d (hg w hw') hu hd hi]
    exact ⟨rfl, rfl⟩
end
end Go.Proofs.YtfcdbmfdaohpjaaDoor
