/-
  The law KindsLists: what stays while a bag is filled; what is spoilt. Conditions: none.
-/
import Derived.Test.YtfcdbmfdaohpjaaDoorKindN
import Derived.Test.YtfcdbmfdaohpjaaDoorLater
import Derived.RegionTactic
import Derived.Deep.RegionWith
namespace Go.Proofs.YtfcdbmfdaohpjaaDoor
open Go.RowKit
theorem whole_kind {w : World} {g g' : Nat} {t t' : TypeId} {cs cs' : Array Value} (h : Whole w g t cs) (h' : Whole w g' t' cs') (hne : t ≠ t') : g ≠ g' := fun e => by
  subst e
  unfold Whole at h h'
  rw [h] at h'
  injection h' with h'
  injection h' with _ e1 _
  exact hne e1
theorem own_kind {w : World} {B s n g : Nat} {t e : TypeId} {v : Value} {xs : List Value} {cs : Array Value} (h : Whole w g t cs) (ho : w.ownsRow B e s v n xs) (hne : t ≠ e) : v.ownBlock ≠ some g := fun hb => by
  rcases ho.2 with ⟨rfl, _⟩ | ⟨g', _, cur, rfl, _, hg, _⟩
  · cases hb
  · simp only [Value.ownBlock, Option.some.injEq] at hb
    subst hb
    unfold Whole at h
    rw [h] at hg
    injection hg with hg
    injection hg with _ e1 _
    exact hne e1
/-- A list more in the bag turns nothing of another kind. -/
theorem BagOf.keepW {w0 w w' : World} {p m c g : Nat} {rows : List Sl} {A : Option Addr} {t : TypeId} {cs : Array Value} (h : BagOf w0 w p m rows A c) (hw : Whole w g t cs) (h1 : t ≠ 51) (h2 : t ≠ 45)
    (hk : Keeps (fun b => b = p ∨ (Value.slice A rows.length c).ownBlock = some b) w w') : Whole w' g t cs :=
  hw.keeps hk fun hs => by
    rcases hs with hs | hs
    · exact whole_kind hw h.1.hW h2 hs
    · exact own_kind hw h.1.hO h1 hs
theorem SgAt.keepB {w0 w w' : World} {p m c g b : Nat} {rows : List Sl} {A : Option Addr} {l : List Sg} (h : BagOf w0 w p m rows A c) (hs : SgAt w g b l) (hk : Keeps (fun b => b = p ∨ (Value.slice A rows.length c).ownBlock = some b) w w') : SgAt w' g b l :=
  ⟨h.keepW hs.1 (by decide) (by decide) hk, fun i s hi => h.keepW (hs.2 i s hi) (by decide) (by decide) hk⟩
theorem RSgAt.keepB {w0 w w' : World} {p m c g b : Nat} {rows : List Sl} {A : Option Addr} {l : List Sg} (h : BagOf w0 w p m rows A c) (hs : RSgAt w g b l) (hk : Keeps (fun b => b = p ∨ (Value.slice A rows.length c).ownBlock = some b) w w') : RSgAt w' g b l :=
  ⟨h.keepW hs.1 (by decide) (by decide) hk, fun i s hi => h.keepW (hs.2 i s hi) (by decide) (by decide) hk⟩
/-- What else is turned, where nothing of the bag lies. -/
theorem BagOf.keepK {w0 w w' : World} {p m c : Nat} {rows : List Sl} {A : Option Addr} {S : Nat → Prop} (h : BagOf w0 w p m rows A c) (hk : Keeps S w w') (h1 : ¬ S p) (h2 : ∀ b, (Value.slice A rows.length c).ownBlock = some b → ¬ S b) (h3 : ∀ b, blks rows b → ¬ S b) : BagOf w0 w' p m rows A c :=
  ⟨⟨h.1.hW.keeps hk h1, own_keepsS h.1.hO hk h2, h.1.hR.keeps hk fun k r b hr hb => h3 b ⟨k, r, hr, hb⟩, h.1.far, h.1.h0⟩, h.2⟩
theorem RSgAt.keeps {S : Nat → Prop} {w w' : World} {g b : Nat} {l : List Sg} (h : RSgAt w g b l) (hk : Keeps S w w') (h1 : ¬ S g) (h2 : ∀ i, i < l.length → ¬ S (b + i)) : RSgAt w' g b l :=
  ⟨h.1.keeps hk h1, fun i s hi => (h.2 i s hi).keeps hk (h2 i (List.getElem?_eq_some_iff.1 hi).1)⟩
theorem SgAt.keeps {S : Nat → Prop} {w w' : World} {g b : Nat} {l : List Sg} (h : SgAt w g b l) (hk : Keeps S w w') (h1 : ¬ S g) (h2 : ∀ i, i < l.length → ¬ S (b + i)) : SgAt w' g b l :=
  ⟨h.1.keeps hk h1, fun i s hi => (h.2 i s hi).keeps hk (h2 i (List.getElem?_eq_some_iff.1 hi).1)⟩
theorem sgCells_size (l : List Sg) (b : Nat) : (sgCells l b).toArray.size = l.length * 4 := by rw [List.size_toArray, sgCells_length]; omega
/-- A sign is laid over another one. -/
theorem spoil {w : World} {g j : Nat} {t : TypeId} {cs : Array Value} (h : Whole w g t cs) (u0 u1 u2 u3 : Value) : ∃ cs' : Array Value, cs'.size = cs.size ∧ Whole ((((w.setCell ⟨g, j * 4, none⟩ u0).setCell ⟨g, j * 4 + 1, none⟩ u1).setCell ⟨g, j * 4 + 2, none⟩ u2).setCell ⟨g, j * 4 + 3, none⟩ u3) g t cs' ∧
    Keeps (fun b => b = g) w ((((w.setCell ⟨g, j * 4, none⟩ u0).setCell ⟨g, j * 4 + 1, none⟩ u1).setCell ⟨g, j * 4 + 2, none⟩ u2).setCell ⟨g, j * 4 + 3, none⟩ u3) :=
  ⟨_, by simp, (((h.put (j * 4) u0).put (j * 4 + 1) u1).put (j * 4 + 2) u2).put (j * 4 + 3) u3,
    ((((Keeps.refl (fun b => b = g) w).setCell (p := ⟨g, j * 4, none⟩) (fun _ => rfl) u0).setCell (p := ⟨g, j * 4 + 1, none⟩) (fun _ => rfl) u1).setCell (p := ⟨g, j * 4 + 2, none⟩) (fun _ => rfl) u2).setCell (p := ⟨g, j * 4 + 3, none⟩) (fun _ => rfl) u3⟩
theorem info_sign : ∃ b, (Tryd.prog.info? 55).map (fun i => (i.zero, i.size, i.bytes)) = some (some (.agg #[.string ⟨#[]⟩, .slice none 0 0, .int .i8 0, .nilFunc]), 4, b) ∧ b ≤ 100 := ⟨56, by kernel_rfl, by decide⟩
/-- Behind Apart. -/
theorem keeps_drew {S : Nat → Prop} {w w' : World} (h : Keeps S w.drew w') : Keeps S w w' := ⟨h.os, h.tape, h.output, h.size, h.block⟩
theorem sg_after {S : Nat → Prop} {w w' : World} {g b : Nat} {l : List Sg} (h : SgAt w g b l) (hk : Keeps S w.drew w') (hl : ∀ k, S k → k < b) (hg : b ≤ g) : SgAt w' g b l :=
  h.keeps (keeps_drew hk) (fun hs => by have := hl _ hs; omega) (fun i _ hs => by have := hl _ hs; omega)
theorem below_after {S : Nat → Prop} {w0 w w' : World} (h : Below w0.heap.size w0 w) (hk : Keeps S w.drew w') (hl : ∀ k, S k → w0.heap.size ≤ k) : Below w0.heap.size w0 w' :=
  h.trans ((keeps_drew hk).below h.size hl)
/-- The first sign of a list. -/
theorem sg_first {w : World} {g b : Nat} {l : List Sg} {a : Sg} (h : SgAt w g b l) (ha : l[0]? = some a) : w.cell? ⟨g, 0, none⟩ = some (.string a.name) ∧ w.cell? ⟨g, 1, none⟩ = some (.slice (some ⟨b, 0, none⟩) a.args.length a.args.length) ∧ w.cell? ⟨g, 2, none⟩ = some (.int .i8 a.tell) ∧ w.cell? ⟨g, 3, none⟩ = some (.func (.func a.gas) #[] #[]) := SgAt.cells_at h.1 0 a ha
theorem rsg_first {w : World} {g b : Nat} {l : List Sg} {a : Sg} (h : RSgAt w g b l) (ha : l[0]? = some a) : w.cell? ⟨g, 0, none⟩ = some (.string a.name) ∧ w.cell? ⟨g, 1, none⟩ = some (.slice (some ⟨b, 0, none⟩) a.args.length a.args.length) ∧ w.cell? ⟨g, 2, none⟩ = some (.int .i8 a.tell) := RSgAt.cells_at h.1 0 a ha
theorem sign_first {w : World} {g b gr br : Nat} {a : Sg} (n : Int) (h : SgAt w g b fields) (hr : RSgAt w gr br fields) (ha : fields[0]? = some a) :
    Calls Tryd.prog 7 #[.agg #[.string a.name, .slice (some ⟨b, 0, none⟩) a.args.length a.args.length, .int .i8 a.tell, .func (.func a.gas) #[] #[]], .agg #[.string a.name, .slice (some ⟨br, 0, none⟩) a.args.length a.args.length, .int .i8 a.tell], .int .i64 0, .int .i64 0, .int .i64 n] w fun e w' => e = .returned (.bool true) ∧ Below w.heap.size w w' :=
  sign_any 0 0 a n b br w (by decide) ha (h.2 0 a ha) (hr.2 0 a ha)
end Go.Proofs.YtfcdbmfdaohpjaaDoor
