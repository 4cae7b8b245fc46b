/-
  RowsDone: what stands in memory between two calls; scripts that come in. Conditions: none.
-/
import Derived.Test.YtbfhbekocgdceaaSnP
import Derived.Test.YtbfhbekocgdceaaRsA
namespace Go.Proofs.Ytbfhbekocgdceaa
open Go.Joins Go.ChangeShapes Go.WideShapes Go.ChangeAt Go.RowKit Go.Deep
/-- The address A leads to calls. -/
def OpLies (w : World) (B : Nat) (A : Option Addr) (xs : List (Int × Int × Int)) : Prop := ∀ (j : Nat) (x : Int × Int × Int), xs[j]? = some x → ∃ g off, A = some ⟨g, off, none⟩ ∧ g < B ∧ w.cell? ⟨g, off + j * 3, none⟩ = some (.int .i64 x.1) ∧ w.cell? ⟨g, off + j * 3 + 1, none⟩ = some (.int .i64 x.2.1) ∧ w.cell? ⟨g, off + j * 3 + 2, none⟩ = some (.int .i64 x.2.2)
theorem OpLies.keep {w w' : World} {B : Nat} {A : Option Addr} {xs : List (Int × Int × Int)} (h : OpLies w B A xs) (hk : ∀ b o, b < B → w'.cell? ⟨b, o, none⟩ = w.cell? ⟨b, o, none⟩) : OpLies w' B A xs := fun j x hx => by
  obtain ⟨g, off, e, hg, h0, h1, h2⟩ := h j x hx
  exact ⟨g, off, e, hg, (hk g _ hg).trans h0, (hk g _ hg).trans h1, (hk g _ hg).trans h2⟩
section
variable {H : Type} {enc : TypeId × Value → H} {W : World}
set_option maxRecDepth 100000 in
theorem open_ops {base : Nat} {v : Value} {d : DataW H} {p : List MemPlace} (hval : Value.okWide Try.prog W .any base 68 v) (h : DataW.Trod enc Try.prog W 0 (fun _ => true) true 68 v d p) (hlt : ∀ x ∈ p, x.block < W.heap.size) :
    ∃ (A : Option Addr) (xs : List (Int × Int × Int)) (cap : Nat), v = .slice A xs.length cap ∧ OpLies W W.heap.size A xs ∧ (∀ x ∈ xs, (-9223372036854775808 ≤ x.1 ∧ x.1 ≤ 9223372036854775807) ∧ (-9223372036854775808 ≤ x.2.1 ∧ x.2.1 ≤ 9223372036854775807) ∧ (-9223372036854775808 ≤ x.2.2 ∧ x.2.2 ≤ 9223372036854775807)) ∧ xs.length ≤ cap ∧ (xs.length = 0 ∨ ∃ elems spare, d = .slice elems spare ∧ elems.length = xs.length) := by
  obtain ⟨A, len, cap, V, rfl, hF, hl, _, hd, hV⟩ := open_structs Try.underlying68 Try.underlying76 (by kernel_rfl) (by kernel_rfl) hval h hlt
  have hq : ∀ i, i < len → ∃ c : Int × Int × Int, V i 0 = .int .i64 c.1 ∧ V i 1 = .int .i64 c.2.1 ∧ V i 2 = .int .i64 c.2.2 ∧ ((-9223372036854775808 ≤ c.1 ∧ c.1 ≤ 9223372036854775807) ∧ (-9223372036854775808 ≤ c.2.1 ∧ c.2.1 ≤ 9223372036854775807) ∧ (-9223372036854775808 ≤ c.2.2 ∧ c.2.2 ≤ 9223372036854775807)) := fun i hi => by
    obtain ⟨_, _, g0⟩ := hV i hi 0 _ rfl
    obtain ⟨_, _, g1⟩ := hV i hi 1 _ rfl
    obtain ⟨_, _, g2⟩ := hV i hi 2 _ rfl
    obtain ⟨z0, c0, _, w0⟩ := DataW.trod_int Try.underlying3 g0
    obtain ⟨z1, c1, _, w1⟩ := DataW.trod_int Try.underlying3 g1
    obtain ⟨z2, c2, _, w2⟩ := DataW.trod_int Try.underlying3 g2
    exact ⟨(z0, z1, z2), (List.cons.inj c0).1, (List.cons.inj c1).1, (List.cons.inj c2).1, bounds_of_i64 w0, bounds_of_i64 w1, bounds_of_i64 w2⟩
  obtain ⟨C, hC⟩ := choose_lt hq
  refine ⟨A, (List.range len).map C, cap, by simp, ?_, fun x hx => ?_, by simpa using hl, by simpa using hd⟩
  · intro j x hx
    rw [List.getElem?_map, Option.map_eq_some_iff] at hx
    obtain ⟨i, hi, rfl⟩ := hx
    obtain ⟨hi1, hi2⟩ := List.getElem?_eq_some_iff.1 hi
    rw [List.length_range] at hi1
    obtain rfl : j = i := by simpa using hi2
    obtain ⟨h0, h1, h2, _⟩ := hC j hi1
    obtain ⟨g, off, e, hg, c0⟩ := hF j hi1 0 (by decide)
    obtain ⟨g', off', e', _, c1⟩ := hF j hi1 1 (by decide)
    obtain ⟨g'', off'', e'', _, c2⟩ := hF j hi1 2 (by decide)
    obtain ⟨rfl, rfl⟩ : g = g' ∧ off = off' := by rw [e] at e'; injection e' with e'; injection e' with e1 e2; exact ⟨e1, e2⟩
    obtain ⟨rfl, rfl⟩ : g = g'' ∧ off = off'' := by rw [e] at e''; injection e'' with e''; injection e'' with e1 e2; exact ⟨e1, e2⟩
    exact ⟨g, off, e, hg, by rw [← h0]; exact c0, by rw [← h1]; exact c1, by rw [← h2]; exact c2⟩
  · obtain ⟨i, hi, rfl⟩ := List.mem_map.1 hx
    exact (hC i (List.mem_range.1 hi)).2.2.2
end
/-- The stack and the list of what was done, of one content. -/
structure DnAt (w W : World) (sp B : Nat) (A : Option Addr) (c : Nat) (aA : Option Addr) (ac : Nat) (l : List (Int × ByteArray)) (d : Nat) (most : Int) : Prop where
  st : StackP W sp A c l d most
  row : W.ownsRow B 49 2 (.slice aA l.length ac) l.length (flat prC l)
  dis : ∀ b, (Value.slice A l.length c).ownBlock = some b → (Value.slice aA l.length ac).ownBlock = some b → False
  nsp : ¬ (Value.slice aA l.length ac).ownBlock = some sp
  keeps : Keeps (fun b => B ≤ b) w W
  low : B ≤ sp
  top : (l.length : Int) ≤ most
theorem DnAt.start {w W : World} {sp B : Nat} {most : Int} (h : StackP W sp none 0 [] 0 most) (hk : Keeps (fun b => B ≤ b) w W) (hB : B ≤ sp) (hm : 0 ≤ most) : DnAt w W sp B none 0 none 0 [] 0 most :=
  ⟨h, World.ownsRow_nil _ _ _ _, (fun b hb => by cases hb), (fun hb => by cases hb), hk, hB, hm⟩
theorem DnAt.own {w W : World} {sp B : Nat} {A : Option Addr} {c : Nat} {aA : Option Addr} {ac : Nat} {l : List (Int × ByteArray)} {d : Nat} {most : Int} (h : DnAt w W sp B A c aA ac l d most) {b : Nat} (hb : b = sp ∨ (Value.slice A l.length c).ownBlock = some b) : B ≤ b := by
  have := h.low
  rcases hb with hb | hb
  · omega
  · have := (h.st.own.lt b hb).1; omega
theorem DnAt.calm {w W W' : World} {sp B : Nat} {A : Option Addr} {c : Nat} {aA : Option Addr} {ac : Nat} {l : List (Int × ByteArray)} {d : Nat} {most : Int} (h : DnAt w W sp B A c aA ac l d most) (hk : Keeps (fun _ => False) W W') : DnAt w W' sp B A c aA ac l d most :=
  ⟨h.st.calm hk id (fun _ _ => id), own_keepsS h.row hk (fun _ _ h => h), h.dis, h.nsp, h.keeps.and hk (fun _ _ h => h.elim), h.low, h.top⟩
/-- The place has moved. -/
theorem DnAt.moved {w W W' : World} {sp B : Nat} {A : Option Addr} {c : Nat} {aA : Option Addr} {ac : Nat} {l : List (Int × ByteArray)} {d d' : Nat} {most : Int} (h : DnAt w W sp B A c aA ac l d most) (h' : StackP W' sp A c l d' most) (hk : Keeps (fun b => b = sp) W W') : DnAt w W' sp B A c aA ac l d' most :=
  ⟨h', own_keepsS h.row hk (fun b hb e => h.nsp (by rw [← e]; exact hb)), h.dis, h.nsp, h.keeps.and hk (fun b _ e => by have := h.low; have e : b = sp := e; omega), h.low, h.top⟩
/-- One more was done. -/
theorem DnAt.did {w W W1 W2 : World} {sp B : Nat} {A A' : Option Addr} {c c' : Nat} {aA aA2 : Option Addr} {ac ac2 : Nat} {l : List (Int × ByteArray)} {d : Nat} {most : Int} {x : Int × ByteArray} {o : Obj} (h : DnAt w W sp B A c aA ac l d most) (hd : (d : Int) < most)
    (h1 : StackP W1 sp A' c' (l.take d ++ [x]) (d + 1) most) (hk : Keeps (fun b => b = sp ∨ (Value.slice A l.length c).ownBlock = some b) W W1) (hor : ∀ b, (Value.slice A' (d + 1) c').ownBlock = some b → (Value.slice A l.length c).ownBlock = some b ∨ W.heap.size ≤ b)
    (ho : W2.ownsRow B 49 2 (.slice aA2 (d + 1) ac2) (d + 1) (flat prC (l.take d) ++ [.int .i8 x.1, .string x.2])) (hg : (W1.drew.alloc o).grownBy W2 (Value.slice aA l.length ac).ownBlock) (hor2 : (Value.slice aA2 (d + 1) ac2).ownBlock = (Value.slice aA l.length ac).ownBlock ∨ (Value.slice aA2 (d + 1) ac2).ownBlock = some (W1.drew.alloc o).heap.size) :
    DnAt w W2 sp B A' c' aA2 ac2 (l.take d ++ [x]) (d + 1) most := by
  have hdl := h.st.le
  have hlen : (l.take d ++ [x]).length = d + 1 := by simp; omega
  have hsz : (W1.drew.alloc o).heap.size = W1.heap.size + 1 := by simp
  have h1s := hk.size
  have hkk : Keeps (fun b => (Value.slice aA l.length ac).ownBlock = some b) W1 W2 := (((Keeps.refl _ W1).drew).alloc o).grown hg (fun b hb _ => hb)
  have hdis : ∀ b, (Value.slice A' (d + 1) c').ownBlock = some b → (Value.slice aA l.length ac).ownBlock = some b → False := fun b hb ha => by
    rcases hor b hb with h2 | h2
    · exact h.dis b h2 ha
    · have := (h.row.lt b ha).2; omega
  have hst : StackP W2 sp A' c' (l.take d ++ [x]) (d + 1) most := h1.calm hkk h.nsp (fun b hb ha => hdis b (by rw [hlen] at hb; exact hb) ha)
  refine ⟨hst, ?_, ?_, ?_, ?_, h.low, by rw [hlen]; omega⟩
  · rw [hlen, flat_snoc]; exact ho
  · rw [hlen]
    intro b hb ha
    rcases hor2 with h2 | h2
    · exact hdis b hb (h2 ▸ ha)
    · rw [h2] at ha
      injection ha with ha
      have := (h1.own.lt b (by rw [hlen]; exact hb)).2
      omega
  · rw [hlen]
    intro ha
    rcases hor2 with h2 | h2
    · exact h.nsp (h2 ▸ ha)
    · rw [h2] at ha
      injection ha with ha
      have := h1.box.inside
      omega
  · refine (h.keeps.and hk (fun b _ hb => h.own hb)).and hkk (fun b _ hb => ?_)
    exact (h.row.lt b hb).1
theorem DnAt.lies {w W : World} {sp B : Nat} {A : Option Addr} {c : Nat} {aA : Option Addr} {ac : Nat} {l : List (Int × ByteArray)} {d : Nat} {most : Int} (h : DnAt w W sp B A c aA ac l d most) : PrLies W W.heap.size aA l := PrLies.of (own_flat_lies h.row)
theorem DnAt.aad {w W : World} {sp B : Nat} {A : Option Addr} {c : Nat} {aA : Option Addr} {ac : Nat} {l : List (Int × ByteArray)} {d : Nat} {most : Int} (h : DnAt w W sp B A c aA ac l d most) : l.length ≤ ac ∧ ((aA = none ∧ ac = 0 ∧ l.length = 0) ∨ ∃ g, aA = some ⟨g, 0, none⟩) := by
  rcases h.row.2 with ⟨hv, hn⟩ | ⟨g, cap, cur, hv, _, _, hc, _⟩
  · injection hv with h1 h2 h3
    exact ⟨by omega, .inl ⟨h1, h3, by omega⟩⟩
  · injection hv with h1 h2 h3
    subst h3
    exact ⟨hc, .inr ⟨g, h1⟩⟩
end Go.Proofs.Ytbfhbekocgdceaa
