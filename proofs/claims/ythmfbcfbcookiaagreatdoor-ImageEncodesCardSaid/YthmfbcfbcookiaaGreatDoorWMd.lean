/-
  Lists of cards, laid out cell by cell. Conditions: none.
-/
import Derived.Test.YthmfbcfbcookiaaGreatDoorWf0
namespace Go.Proofs.YthmfbcfbcookiaaGreatDoor
open Go.RowKit
theorem info_cd : (Tryz.prog.info? 42).map (fun i => (i.zero, i.size, i.bytes)) = some (some (.agg #[.int .i64 0, .int .i64 0, .int .i32 0, .int .i32 0, .int .i32 0, .int .i32 0]), 6, 32) := by kernel_rfl
/-- One of them, read. -/
structure Cd where
  kind : Int
  owner : Int
  power : Int
  health : Int
  damage : Int
  marks : Int
deriving DecidableEq
def Cd.cells (c : Cd) : List Value := [.int .i64 c.kind, .int .i64 c.owner, .int .i32 c.power, .int .i32 c.health, .int .i32 c.damage, .int .i32 c.marks]
/-- A list with marks behind it. -/
def wideCd (xs : List Cd) : List Cd := xs ++ (List.range 64).map (fun i => ⟨1048576 * 9 + ((xs.length + i : Nat) : Int) + 1, 0, 0, 0, 0, 0⟩)
theorem wideCd_length (xs : List Cd) : (wideCd xs).length = xs.length + 64 := by simp [wideCd]
theorem wideCd_low (xs : List Cd) (i : Nat) (h : i < xs.length) : (wideCd xs)[i]? = some xs[i] := by
  rw [wideCd, List.getElem?_append_left h, List.getElem?_eq_getElem h]
theorem wideCd_high (xs : List Cd) (i : Nat) (h : ¬ i < xs.length) (h2 : i < xs.length + 64) : (wideCd xs)[i]? = some ⟨1048576 * 9 + (i : Int) + 1, 0, 0, 0, 0, 0⟩ := by
  rw [wideCd, List.getElem?_append_right (by omega), List.getElem?_map, List.getElem?_range (by omega)]
  simp only [Option.map_some]
  rw [show xs.length + (i - xs.length) = i by omega]
/-- The cells of such a list, where a slice says. -/
abbrev CdLies (w : World) (B : Nat) (A : Option Addr) (xs : List Cd) : Prop := FLies Cd.cells 6 w B A xs
theorem CdLies.cells {w : World} {B : Nat} {A : Option Addr} {xs : List Cd} (h : CdLies w B A xs) (i : Nat) (c : Cd) (hi : xs[i]? = some c) : ∃ g off, A = some ⟨g, off, none⟩ ∧ g < B ∧ w.cell? ⟨g, off + i * 6, none⟩ = some (.int .i64 c.kind) ∧ w.cell? ⟨g, off + i * 6 + 1, none⟩ = some (.int .i64 c.owner) ∧ w.cell? ⟨g, off + i * 6 + 2, none⟩ = some (.int .i32 c.power) ∧ w.cell? ⟨g, off + i * 6 + 3, none⟩ = some (.int .i32 c.health) ∧ w.cell? ⟨g, off + i * 6 + 4, none⟩ = some (.int .i32 c.damage) ∧ w.cell? ⟨g, off + i * 6 + 5, none⟩ = some (.int .i32 c.marks) := by
  obtain ⟨g, off, e, hg, hc⟩ := h i c hi
  exact ⟨g, off, e, hg, hc 0 (by decide), hc 1 (by decide), hc 2 (by decide), hc 3 (by decide), hc 4 (by decide), hc 5 (by decide)⟩
theorem cd_at {w : World} {g i : Nat} {t : TypeId} {cs : Array Value} (h : Whole w g t cs) (hi : i * 6 + 6 ≤ cs.size) :
    w.cell? ⟨g, i * 6, none⟩ = some (cs[i * 6]'(by omega)) ∧ w.cell? ⟨g, i * 6 + 1, none⟩ = some (cs[i * 6 + 1]'(by omega)) ∧ w.cell? ⟨g, i * 6 + 2, none⟩ = some (cs[i * 6 + 2]'(by omega)) ∧ w.cell? ⟨g, i * 6 + 3, none⟩ = some (cs[i * 6 + 3]'(by omega)) ∧ w.cell? ⟨g, i * 6 + 4, none⟩ = some (cs[i * 6 + 4]'(by omega)) ∧ w.cell? ⟨g, i * 6 + 5, none⟩ = some (cs[i * 6 + 5]'(by omega)) ∧ w.frozen? ⟨g, i * 6, none⟩ = false ∧ w.frozen? ⟨g, i * 6 + 1, none⟩ = false ∧ w.frozen? ⟨g, i * 6 + 2, none⟩ = false ∧ w.frozen? ⟨g, i * 6 + 3, none⟩ = false ∧ w.frozen? ⟨g, i * 6 + 4, none⟩ = false ∧ w.frozen? ⟨g, i * 6 + 5, none⟩ = false :=
  ⟨(h.cellAt _).trans (Array.getElem?_eq_getElem _), (h.cellAt _).trans (Array.getElem?_eq_getElem _), (h.cellAt _).trans (Array.getElem?_eq_getElem _), (h.cellAt _).trans (Array.getElem?_eq_getElem _), (h.cellAt _).trans (Array.getElem?_eq_getElem _), (h.cellAt _).trans (Array.getElem?_eq_getElem _), h.free _, h.free _, h.free _, h.free _, h.free _, h.free _⟩
theorem cd_put {w wr : World} {g i : Nat} {t : TypeId} {cs : Array Value} {l : List Cd} {x : Cd} (hF : Filled (flat Cd.cells l).toArray cs (i * 6)) (h : Whole wr g t cs) (hk : Keeps (fun b => b = g) w wr) (hv : l[i]? = some x) :
    ∃ cs', Filled (flat Cd.cells l).toArray cs' ((i + 1) * 6) ∧ Whole ((((((wr.setCell ⟨g, i * 6, none⟩ (.int .i64 x.kind)).setCell ⟨g, i * 6 + 1, none⟩ (.int .i64 x.owner)).setCell ⟨g, i * 6 + 2, none⟩ (.int .i32 x.power)).setCell ⟨g, i * 6 + 3, none⟩ (.int .i32 x.health)).setCell ⟨g, i * 6 + 4, none⟩ (.int .i32 x.damage)).setCell ⟨g, i * 6 + 5, none⟩ (.int .i32 x.marks)) g t cs' ∧
      Keeps (fun b => b = g) w ((((((wr.setCell ⟨g, i * 6, none⟩ (.int .i64 x.kind)).setCell ⟨g, i * 6 + 1, none⟩ (.int .i64 x.owner)).setCell ⟨g, i * 6 + 2, none⟩ (.int .i32 x.power)).setCell ⟨g, i * 6 + 3, none⟩ (.int .i32 x.health)).setCell ⟨g, i * 6 + 4, none⟩ (.int .i32 x.damage)).setCell ⟨g, i * 6 + 5, none⟩ (.int .i32 x.marks)) := by
  have hg : ∀ j, j < 6 → (flat Cd.cells l).toArray[i * 6 + j]? = x.cells[j]? := fun j hj => by
    rw [List.getElem?_toArray]; exact flat_get (k := 6) (fun _ => rfl) l i x hv j hj
  have s0 := hF.step (v := .int .i64 x.kind) (hg 0 (by decide))
  have s1 := s0.step (v := .int .i64 x.owner) (hg 1 (by decide))
  have s2 := s1.step (v := .int .i32 x.power) (hg 2 (by decide))
  have s3 := s2.step (v := .int .i32 x.health) (hg 3 (by decide))
  have s4 := s3.step (v := .int .i32 x.damage) (hg 4 (by decide))
  have s5 := s4.step (v := .int .i32 x.marks) (hg 5 (by decide))
  refine ⟨_, ?_, ((((((h.put (i * 6) _).put (i * 6 + 1) _).put (i * 6 + 2) _).put (i * 6 + 3) _).put (i * 6 + 4) _).put (i * 6 + 5) _), ((((((hk.setCell (p := ⟨g, i * 6, none⟩) (fun _ => rfl) _).setCell (p := ⟨g, i * 6 + 1, none⟩) (fun _ => rfl) _).setCell (p := ⟨g, i * 6 + 2, none⟩) (fun _ => rfl) _).setCell (p := ⟨g, i * 6 + 3, none⟩) (fun _ => rfl) _).setCell (p := ⟨g, i * 6 + 4, none⟩) (fun _ => rfl) _).setCell (p := ⟨g, i * 6 + 5, none⟩) (fun _ => rfl) _)⟩
  rw [Nat.succ_mul]
  exact s5
end Go.Proofs.YthmfbcfbcookiaaGreatDoor
/-
  Lists of players, laid out cell by cell. Conditions: none.
-/
namespace Go.Proofs.YthmfbcfbcookiaaGreatDoor
open Go.RowKit
theorem info_pl : (Tryz.prog.info? 44).map (fun i => (i.zero, i.size, i.bytes)) = some (some (.agg #[.int .i32 0, .int .i32 0, .bool false]), 3, 12) := by kernel_rfl
/-- One of them, read. -/
structure Pl where
  life : Int
  energy : Int
  out : Bool
deriving DecidableEq
def Pl.cells (c : Pl) : List Value := [.int .i32 c.life, .int .i32 c.energy, .bool c.out]
/-- A list with marks behind it. -/
def widePl (xs : List Pl) : List Pl := xs ++ (List.range 64).map (fun i => ⟨1048576 * 9 + ((xs.length + i : Nat) : Int) + 1, 0, false⟩)
theorem widePl_length (xs : List Pl) : (widePl xs).length = xs.length + 64 := by simp [widePl]
theorem widePl_low (xs : List Pl) (i : Nat) (h : i < xs.length) : (widePl xs)[i]? = some xs[i] := by
  rw [widePl, List.getElem?_append_left h, List.getElem?_eq_getElem h]
theorem widePl_high (xs : List Pl) (i : Nat) (h : ¬ i < xs.length) (h2 : i < xs.length + 64) : (widePl xs)[i]? = some ⟨1048576 * 9 + (i : Int) + 1, 0, false⟩ := by
  rw [widePl, List.getElem?_append_right (by omega), List.getElem?_map, List.getElem?_range (by omega)]
  simp only [Option.map_some]
  rw [show xs.length + (i - xs.length) = i by omega]
/-- The cells of such a list, where a slice says. -/
abbrev PlLies (w : World) (B : Nat) (A : Option Addr) (xs : List Pl) : Prop := FLies Pl.cells 3 w B A xs
theorem PlLies.cells {w : World} {B : Nat} {A : Option Addr} {xs : List Pl} (h : PlLies w B A xs) (i : Nat) (c : Pl) (hi : xs[i]? = some c) : ∃ g off, A = some ⟨g, off, none⟩ ∧ g < B ∧ w.cell? ⟨g, off + i * 3, none⟩ = some (.int .i32 c.life) ∧ w.cell? ⟨g, off + i * 3 + 1, none⟩ = some (.int .i32 c.energy) ∧ w.cell? ⟨g, off + i * 3 + 2, none⟩ = some (.bool c.out) := by
  obtain ⟨g, off, e, hg, hc⟩ := h i c hi
  exact ⟨g, off, e, hg, hc 0 (by decide), hc 1 (by decide), hc 2 (by decide)⟩
theorem pl_at {w : World} {g i : Nat} {t : TypeId} {cs : Array Value} (h : Whole w g t cs) (hi : i * 3 + 3 ≤ cs.size) :
    w.cell? ⟨g, i * 3, none⟩ = some (cs[i * 3]'(by omega)) ∧ w.cell? ⟨g, i * 3 + 1, none⟩ = some (cs[i * 3 + 1]'(by omega)) ∧ w.cell? ⟨g, i * 3 + 2, none⟩ = some (cs[i * 3 + 2]'(by omega)) ∧ w.frozen? ⟨g, i * 3, none⟩ = false ∧ w.frozen? ⟨g, i * 3 + 1, none⟩ = false ∧ w.frozen? ⟨g, i * 3 + 2, none⟩ = false :=
  ⟨(h.cellAt _).trans (Array.getElem?_eq_getElem _), (h.cellAt _).trans (Array.getElem?_eq_getElem _), (h.cellAt _).trans (Array.getElem?_eq_getElem _), h.free _, h.free _, h.free _⟩
theorem pl_put {w wr : World} {g i : Nat} {t : TypeId} {cs : Array Value} {l : List Pl} {x : Pl} (hF : Filled (flat Pl.cells l).toArray cs (i * 3)) (h : Whole wr g t cs) (hk : Keeps (fun b => b = g) w wr) (hv : l[i]? = some x) :
    ∃ cs', Filled (flat Pl.cells l).toArray cs' ((i + 1) * 3) ∧ Whole (((wr.setCell ⟨g, i * 3, none⟩ (.int .i32 x.life)).setCell ⟨g, i * 3 + 1, none⟩ (.int .i32 x.energy)).setCell ⟨g, i * 3 + 2, none⟩ (.bool x.out)) g t cs' ∧
      Keeps (fun b => b = g) w (((wr.setCell ⟨g, i * 3, none⟩ (.int .i32 x.life)).setCell ⟨g, i * 3 + 1, none⟩ (.int .i32 x.energy)).setCell ⟨g, i * 3 + 2, none⟩ (.bool x.out)) := by
  have hg : ∀ j, j < 3 → (flat Pl.cells l).toArray[i * 3 + j]? = x.cells[j]? := fun j hj => by
    rw [List.getElem?_toArray]; exact flat_get (k := 3) (fun _ => rfl) l i x hv j hj
  have s0 := hF.step (v := .int .i32 x.life) (hg 0 (by decide))
  have s1 := s0.step (v := .int .i32 x.energy) (hg 1 (by decide))
  have s2 := s1.step (v := .bool x.out) (hg 2 (by decide))
  refine ⟨_, ?_, (((h.put (i * 3) _).put (i * 3 + 1) _).put (i * 3 + 2) _), (((hk.setCell (p := ⟨g, i * 3, none⟩) (fun _ => rfl) _).setCell (p := ⟨g, i * 3 + 1, none⟩) (fun _ => rfl) _).setCell (p := ⟨g, i * 3 + 2, none⟩) (fun _ => rfl) _)⟩
  rw [Nat.succ_mul]
  exact s2
end Go.Proofs.YthmfbcfbcookiaaGreatDoor
