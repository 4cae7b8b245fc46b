/-
  RowsSorts: the law's function is true at every pairs and every cuts: the walk. Condition: the lists within what memory holds.
-/
import Derived.Test.YtbfhbekocgdceaaRsA
import Derived.Test.YtbfhbekocgdceaaRsS
import Derived.Test.YtbfhbekocgdceaaRwW
import Derived.Test.YtbfhbekocgdceaaRcA
namespace Go.Proofs.Ytbfhbekocgdceaa
open Go.RowKit
/-- The heap behind so many things. -/
structure SortAt (w wr : World) (hp B : Nat) (A : Option Addr) (c : Nat) (l : List (Int × ByteArray)) (at_ : Nat) : Prop where
  heap : HeapP wr hp A c (putsP [] 0 (l.take at_)) at_
  keeps : Keeps (fun b => B ≤ b) w wr
  low : B ≤ hp
theorem SortAt.own {w wr : World} {hp B : Nat} {A : Option Addr} {c : Nat} {l : List (Int × ByteArray)} {at_ : Nat} (h : SortAt w wr hp B A c l at_) {b : Nat} (hb : b = hp ∨ (Value.slice A (putsP [] 0 (l.take at_)).length c).ownBlock = some b) : B ≤ b := by
  have := h.low
  rcases hb with hb | hb
  · omega
  · have := (h.heap.own.lt b hb).1; omega
/-- A piece more is put in. -/
theorem SortAt.put {w wr w' : World} {hp B : Nat} {A A' : Option Addr} {c c' : Nat} {l : List (Int × ByteArray)} {at_ n : Nat} (h : SortAt w wr hp B A c l at_) (hn : at_ + n ≤ l.length)
    (hh : HeapP w' hp A' c' (putsP (putsP [] 0 (l.take at_)) at_ ((l.drop at_).take n)) ((at_ : Int) + (n : Int))) (hk : Keeps (fun b => b = hp ∨ (Value.slice A (putsP [] 0 (l.take at_)).length c).ownBlock = some b) wr w') : SortAt w w' hp B A' c' l (at_ + n) := by
  have e2 : l.take (at_ + n) = l.take at_ ++ (l.drop at_).take n := List.take_add
  have e3 : putsP [] 0 (l.take (at_ + n)) = putsP (putsP [] 0 (l.take at_)) at_ ((l.drop at_).take n) := by
    rw [e2, putsP_append, List.length_take, Nat.min_eq_left (by omega)]; simp
  refine ⟨?_, h.keeps.and hk (fun b _ hb => h.own hb), h.low⟩
  rw [e3]
  have e4 : ((at_ : Int) + (n : Int)) = ((at_ + n : Nat) : Int) := by omega
  rw [e4] at hh
  exact hh
/-- What the put asks of the piece. -/
theorem piece_lies {w wr : World} {hp B g off : Nat} {A : Option Addr} {c : Nat} {l : List (Int × ByteArray)} {at_ n : Nat} (h : SortAt w wr hp B A c l at_) (hx : PrLies w B (some ⟨g, off, none⟩) l) (hB : B ≤ w.heap.size) :
    ∀ W, Keeps (fun b => b = hp ∨ (Value.slice A (putsP [] 0 (l.take at_)).length c).ownBlock = some b) wr W → ∀ (j : Nat) (x : Int × ByteArray), ((l.drop at_).take n)[j]? = some x → ∃ g' off', (some ⟨g, off + at_ * 2, none⟩ : Option Addr) = some ⟨g', off', none⟩ ∧ W.cell? ⟨g', off' + j * 2, none⟩ = some (.int .i8 x.1) ∧ W.cell? ⟨g', off' + j * 2 + 1, none⟩ = some (.string x.2) := fun W hW j x hj => by
  have hj2 : l[at_ + j]? = some x := by
    rw [List.getElem?_take] at hj
    split at hj
    · rw [List.getElem?_drop] at hj; exact hj
    · cases hj
  obtain ⟨g', off', e, hg, h0, h1⟩ := hx _ x hj2
  obtain ⟨rfl, rfl⟩ : g = g' ∧ off = off' := by injection e with e; injection e with e1 e2; exact ⟨e1, e2⟩
  have hs := h.keeps.size
  have hn : ¬ (g = hp ∨ (Value.slice A (putsP [] 0 (l.take at_)).length c).ownBlock = some g) := fun hb => by have := h.own hb; omega
  have e1 : ∀ o, W.cell? ⟨g, o, none⟩ = w.cell? ⟨g, o, none⟩ := fun o => (hW.cell (by omega) hn).trans (h.keeps.cell (by omega) (by omega))
  refine ⟨g, off + at_ * 2, rfl, ?_, ?_⟩
  · rw [e1, ← h0]; congr 2; omega
  · rw [e1, ← h1]; congr 2; omega
/-- Where a tail begins, of elements of two cells. -/
def tail2 (A : Option Addr) (k c : Nat) : Option Addr := if c = k then A else A.map (·.add (k * 2))
section
variable {P : Program} {w : World} {ops : Array Oper} {rest : List Oper} {o : Oper} {a : Act} {Q : Exit → Act → World → Prop}
theorem wpList_slice_tail2 (hgd : o.guard = none) (t e : TypeId) (x y : Operand) (ho : o.op = .slice t x (some y) none none) (ht : P.underlying t = some (.slice e)) (hsz : (P.info? e).map (·.size) = some 2) (A : Option Addr) (n c k : Nat)
    (hx : a.eval x = .slice A n c) (hy : a.eval y = .int .i64 k) (hk : k ≤ n) (h : wpList P ops Q rest (a.put o.dst (.slice (tail2 A k c) (n - k) (c - k))) w) : wpList P ops Q (o :: rest) a w :=
  wpList_plain hgd fun K hK => by
    have he : P.elem t = e := by simp [Program.elem, ht]
    have hr : (Instr.sliceAt t (.slice A n c) (some (.int .i64 (k : Int))) none none).run P w = .ok (.slice (tail2 A k c) (n - k) (c - k)) w := by
      rw [run_sliceAt_slice w t _ _ _ _ (by rw [he]; exact ht), run_slice_l w t A n c (by rw [he]; exact ht) .i64 (k : Int) (by omega) (by omega), run_size_of ht hsz]
      simp only [Result.andThen, sliced, Int.toNat_natCast, tail2]
    unfold Oper.wp execOp
    simp only [ho, hx, hy, Option.map_none, Option.map_some, Sem.run_bind, Sem.run_pure, Result.andThen_ok, hr]
    exact hK _ _ h
end
theorem rest_lies {w wr : World} {hp B cap : Nat} {A C : Option Addr} {c : Nat} {l : List (Int × ByteArray)} {at_ : Nat} (h : SortAt w wr hp B A c l at_) (hx : PrLies w B C l) (hB : B ≤ w.heap.size) (hc : l.length ≤ cap) :
    ∀ W, Keeps (fun b => b = hp ∨ (Value.slice A (putsP [] 0 (l.take at_)).length c).ownBlock = some b) wr W → ∀ (j : Nat) (x : Int × ByteArray), (l.drop at_)[j]? = some x → ∃ g' off', tail2 C at_ cap = some ⟨g', off', none⟩ ∧ W.cell? ⟨g', off' + j * 2, none⟩ = some (.int .i8 x.1) ∧ W.cell? ⟨g', off' + j * 2 + 1, none⟩ = some (.string x.2) := fun W hW j x hj => by
  have hj2 := hj
  rw [List.getElem?_drop] at hj2
  have hlt := (List.getElem?_eq_some_iff.1 hj2).1
  obtain ⟨g, off, rfl, hg, _⟩ := hx _ x hj2
  have he : tail2 (some ⟨g, off, none⟩) at_ cap = some ⟨g, off + at_ * 2, none⟩ := by
    unfold tail2
    rw [if_neg (by omega)]
    simp only [Option.map_some, Option.some.injEq, Addr.add]
    split
    · simp
    · rfl
  rw [he]
  refine piece_lies (n := l.length) h hx hB W hW j x ?_
  rw [List.getElem?_take, if_pos (by omega)]
  exact hj
theorem piece_put (hp c' cap at_ n : Nat) (A' C : Option Addr) (B : Nat) (l : List (Int × ByteArray)) (w wr : World) (HS : SortAt w wr hp B A' c' l at_) (hn : at_ + n ≤ l.length) (hlb : l.length ≤ 1024)
    (hx : ∀ W, Keeps (fun b => b = hp ∨ (Value.slice A' (putsP [] 0 (l.take at_)).length c').ownBlock = some b) wr W → ∀ (j : Nat) (x : Int × ByteArray), ((l.drop at_).take n)[j]? = some x → ∃ g' off', C = some ⟨g', off', none⟩ ∧ W.cell? ⟨g', off' + j * 2, none⟩ = some (.int .i8 x.1) ∧ W.cell? ⟨g', off' + j * 2 + 1, none⟩ = some (.string x.2)) :
    Calls Try.prog 19 #[.pointer (some ⟨hp, 0, none⟩), .slice C n cap] wr fun e w' => e = .returned (.bool true) ∧ ∃ A2 c2, SortAt w w' hp B A2 c2 l (at_ + n) := by
  have hl2 : ((l.drop at_).take n).length = n := by simp; omega
  have h0 := hputP_any hp c' cap at_ A' C (putsP [] 0 (l.take at_)) ((l.drop at_).take n) wr HS.heap (by rw [putsP_length, List.length_take]; simp; omega) (by omega) hx
  rw [hl2] at h0
  refine h0.mono ?_
  rintro e w' ⟨rfl, A2, c2, hh, hk, _⟩
  exact ⟨rfl, A2, c2, HS.put hn hh hk⟩
/-- What stands in the heap while it is emptied. -/
structure LeftAt (w wr : World) (hp B : Nat) (A : Option Addr) (c : Nat) (l : List (Int × ByteArray)) (L : List EnP) (r : Int) (i : Nat) : Prop where
  hw : HeapP wr hp A c L l.length
  hp_ : heap.Hp ahP L
  perm : L.Perm (leftS l r i)
  keeps : Keeps (fun b => B ≤ b) w wr
  low : B ≤ hp
theorem LeftAt.own {w wr : World} {hp B : Nat} {A : Option Addr} {c : Nat} {l : List (Int × ByteArray)} {L : List EnP} {r : Int} {i : Nat} (h : LeftAt w wr hp B A c l L r i) {b : Nat} (hb : b = hp ∨ (Value.slice A L.length c).ownBlock = some b) : B ≤ b := by
  have := h.low
  rcases hb with hb | hb
  · omega
  · have := (h.hw.own.lt b hb).1; omega
theorem LeftAt.start {w wr : World} {hp B : Nat} {A : Option Addr} {c : Nat} {l : List (Int × ByteArray)} (h : SortAt w wr hp B A c l l.length) (hr : ∀ x ∈ l, -128 ≤ x.1) : LeftAt w wr hp B A c l (putsP [] 0 l) (-128) 0 := by
  have h1 := h.heap
  rw [List.take_length] at h1
  have h2 := putsP_heap l [] 0 (fun i x y _ hx => by simp at hx)
  refine ⟨h1, h2.1, ?_, h.keeps, h.low⟩
  rw [leftS_start l hr]
  simpa using h2.2
theorem LeftAt.small {w wr : World} {hp B : Nat} {A : Option Addr} {c : Nat} {l : List (Int × ByteArray)} {L : List EnP} {r : Int} {i : Nat} (h : LeftAt w wr hp B A c l L r i) (hl : l.length ≤ 1024) : L.length ≤ 1024 := by
  rw [h.perm.length_eq]
  refine Nat.le_trans (List.length_filter_le _ _) ?_
  rw [entsP_length]; exact hl
theorem LeftAt.calm {w wr w' : World} {hp B : Nat} {A : Option Addr} {c : Nat} {l : List (Int × ByteArray)} {L : List EnP} {r : Int} {i : Nat} (h : LeftAt w wr hp B A c l L r i) (hk : Keeps (fun _ => False) wr w') : LeftAt w w' hp B A c l L r i :=
  ⟨h.hw.calm hk id (fun _ _ => id), h.hp_, h.perm, h.keeps.and hk (fun _ _ h => h.elim), h.low⟩
theorem left_take (hp c : Nat) (A : Option Addr) (B i : Nat) (r : Int) (l : List (Int × ByteArray)) (L : List EnP) (w wr : World) (h : LeftAt w wr hp B A c l L r i) (hi : i < l.length) (hr : l[i].1 = r) (hl : l.length ≤ 1024) :
    Calls Try.prog 21 #[.pointer (some ⟨hp, 0, none⟩)] wr fun e w' => e = .returned (.tuple #[.agg #[.int .i8 l[i].1, .string l[i].2], .bool true]) ∧ LeftAt w w' hp B A c l (takeP L) r (i + 1) := by
  obtain ⟨h1, h2⟩ := leftS_next l r i hi hr
  obtain ⟨h3, h4, h5⟩ := takeP_least h.hp_ (h.perm.trans h1) h2
  refine (htakeP_any hp c l.length A L _ wr h.hw h3 (by have := h.small hl; omega)).mono ?_
  rintro e w' ⟨rfl, hh, hk⟩
  exact ⟨rfl, hh, h4, h5, h.keeps.and hk (fun b _ hb => h.own hb), h.low⟩
set_option maxRecDepth 100000 in
set_option maxHeartbeats 4000000 in
theorem rowsSorts_any (l : List (Int × ByteArray)) (cuts : List Int) (A C : Option Addr) (cap cc : Nat) (w : World) (hx : PrLies w w.heap.size A l) (hc : Lies w w.heap.size C (cuts.map (Value.int .i64))) (hr : ∀ x ∈ l, -128 ≤ x.1 ∧ x.1 ≤ 127) (hcap : l.length ≤ cap) (hwc : ∀ z ∈ cuts, -9223372036854775808 ≤ z ∧ z ≤ 9223372036854775807) :
    Calls Try.prog 4 #[.slice A l.length cap, .slice C cuts.length cc] w fun e w' => e = .returned (.bool true) ∧ Below w.heap.size w w' := by
  have HX := Lib.hid hx
  have HC := Lib.hid hc
  have HR := Lib.hid hr
  have HWC := Lib.hid hwc
  clear hx hc hr hwc
  go_enter Try.func4, Try.ntmps4
  go_wp2_with fail
  refine (rworks_any w).mono ?_
  rintro e w1 ⟨rfl, k1⟩
  have K1 := Lib.hid k1
  clear k1
  by_cases hbig : 1024 < l.length
  · have hb : (1024 : Int) < (l.length : Int) := by omega
    go_wp2_with fail
    go_ret
    exact ⟨rfl, K1.out.below (Nat.le_refl _) (fun _ h => h.elim)⟩
  · by_cases hbig2 : 1024 < cuts.length
    · have hb : ¬ (1024 : Int) < (l.length : Int) := by omega
      have hb2 : (1024 : Int) < (cuts.length : Int) := by omega
      go_wp2_with fail
      go_ret
      exact ⟨rfl, K1.out.below (Nat.le_refl _) (fun _ h => h.elim)⟩
    · have hb : ¬ (1024 : Int) < (l.length : Int) := by omega
      have hb2 : ¬ (1024 : Int) < (cuts.length : Int) := by omega
      have hlb : l.length ≤ 1024 := by omega
      have hcb : cuts.length ≤ 1024 := by omega
      clear hbig hbig2
      go_wp2_with fail
      refine (newHeapP_any w1).mono ?_
      rintro e w2 ⟨rfl, hH, k2⟩
      obtain ⟨hp, hhp⟩ : ∃ z, z = w1.heap.size := ⟨_, rfl⟩
      rw [← hhp] at hH ⊢
      have hs1 := K1.out.size
      obtain ⟨B, hB⟩ : ∃ B, B = w.heap.size := ⟨_, rfl⟩
      have hBp : B ≤ hp := by omega
      have hB2 : B ≤ w2.heap.size := by have := k2.size; omega
      have KB : Hid (Keeps (fun _ => False) w w2) := Lib.hid (K1.out.and k2 (fun _ _ h => h))
      have X2 : Hid (PrLies w2 B A l) := Lib.hid (by rw [hB]; exact HX.out.keep (fun b o h => KB.out.cell h id))
      have C2 : Hid (Lies w2 B C (cuts.map (Value.int .i64))) := Lib.hid (by rw [hB]; exact HC.out.keep (fun b o h => KB.out.cell h id))
      have HB := Lib.hid hB
      have S0 : Hid (SortAt w2 w2 hp B none 0 l 0) := Lib.hid ⟨hH, Keeps.refl _ _, hBp⟩
      clear hH k2 hhp hB HX HC hs1
      go_wp2_with fail
      clear hb hb2
      go_loopw [7, 8] (fun va vi wr => ∃ (at_ i : Nat) (A' : Option Addr) (c' : Nat), at_ ≤ l.length ∧ i ≤ cuts.length ∧ va = .int .i64 at_ ∧ vi = .int .i64 i ∧ Hid (SortAt w2 wr hp B A' c' l at_)) (fun _ vi _ => cuts.length - (intOf vi).toNat)
      case atStart => exact ⟨0, 0, none, 0, by omega, by omega, rfl, rfl, S0⟩
      case round =>
        clear S0
        obtain ⟨at_, i, A', c', hat, hi, rfl, rfl, HS⟩ := hrel
        by_cases hin : i < cuts.length ∧ at_ < l.length
        · obtain ⟨hi1, ha1⟩ := hin
          obtain ⟨gc, oc, hC, hgc, hcc0⟩ := C2.out i _ (map_get cuts i hi1)
          subst hC
          have hcc : wr.cell? ⟨gc, oc + i, none⟩ = some (.int .i64 cuts[i]) := (HS.out.keeps.cell (by omega) (by omega)).trans hcc0
          have hz := HWC.out _ (List.getElem_mem hi1)
          obtain ⟨g, off, hA, hg, _⟩ := X2.out at_ l[at_] (List.getElem?_eq_getElem ha1)
          subst hA
          clear hcc0
          generalize cuts[i] = z at *
          obtain ⟨n, hn, hnl⟩ : ∃ n : Nat, (n : Int) = (if z < 0 ∨ (l.length : Int) - (at_ : Int) < z then (l.length : Int) - (at_ : Int) else z) ∧ at_ + n ≤ l.length := by
            by_cases h : z < 0 ∨ (l.length : Int) - (at_ : Int) < z
            · exact ⟨l.length - at_, by rw [if_pos h]; omega, by omega⟩
            · exact ⟨z.toNat, by rw [if_neg h]; omega, by omega⟩
          have HP := Lib.hid (piece_put hp c' (cap - at_) at_ n A' (some ⟨g, off + at_ * 2, none⟩) B l w2 wr HS.out hnl hlb (piece_lies HS.out X2.out hB2))
          have HNL := Lib.hid hnl
          have hs1 : (at_ : Int) + (n : Int) ≤ (cap : Int) := by omega
          have hs2 : (at_ : Int) ≤ (at_ : Int) + (n : Int) := by omega
          have hs3 : ¬ cap = at_ := by omega
          have hs4 : (at_ : Int) + (n : Int) ≤ 1024 := by omega
          clear HS
          by_cases hz0 : z < 0
          · rw [if_pos (.inl hz0)] at hn
            have hln : (l.length : Int) - (at_ : Int) = (n : Int) := hn.symm
            clear hn hnl
            go_wp2_with fail
            refine HP.out.mono ?_
            rintro e w3 ⟨rfl, A3, c3, hS3⟩
            have S3 := Lib.hid hS3
            clear hS3 HP hln hs1 hs2 hs3
            go_wp2_with fail
            go_roundw
            case rel => exact ⟨at_ + n, i + 1, A3, c3, HNL.out, by omega, by go_num, by go_num, S3⟩
            case measure => simp [intOf]; omega
          · by_cases hz1 : (l.length : Int) - (at_ : Int) < z
            · rw [if_pos (.inr hz1)] at hn
              have hln : (l.length : Int) - (at_ : Int) = (n : Int) := hn.symm
              have hz2 : (n : Int) < z := by omega
              clear hn hnl hz1
              go_wp2_with fail
              refine HP.out.mono ?_
              rintro e w3 ⟨rfl, A3, c3, hS3⟩
              have S3 := Lib.hid hS3
              clear hS3 HP hln hs1 hs2 hs3
              go_wp2_with fail
              go_roundw
              case rel => exact ⟨at_ + n, i + 1, A3, c3, HNL.out, by omega, by go_num, by go_num, S3⟩
              case measure => simp [intOf]; omega
            · rw [if_neg (by omega)] at hn
              subst hn
              have hz2 : ¬ ((l.length : Int) - (at_ : Int) < (n : Int)) := by omega
              clear hnl hz1
              go_wp2_with fail
              refine HP.out.mono ?_
              rintro e w3 ⟨rfl, A3, c3, hS3⟩
              have S3 := Lib.hid hS3
              clear hS3 HP hs1 hs2 hs3
              go_wp2_with fail
              go_roundw
              case rel => exact ⟨at_ + n, i + 1, A3, c3, HNL.out, by omega, by go_num, by go_num, S3⟩
              case measure => simp [intOf]; omega
        · have HP := Lib.hid (piece_put hp c' (cap - at_) at_ (l.length - at_) A' (tail2 A at_ cap) B l w2 wr HS.out (by omega) hlb (fun W hW j x hj => rest_lies HS.out X2.out hB2 hcap W hW j x (by rw [List.getElem?_take] at hj; split at hj; exact hj; cases hj)))
          have hac : at_ ≤ cap := by omega
          clear HS
          have hj : i < cuts.length → ¬ at_ < l.length := fun h1 h2 => hin ⟨h1, h2⟩
          clear hin
          obtain ⟨wr, rfl⟩ : ∃ x, x = wr := ⟨_, rfl⟩
          have hcase : (i < cuts.length ∧ ¬ at_ < l.length) ∨ ¬ i < cuts.length := by
            by_cases h : i < cuts.length
            · exact .inl ⟨h, hj h⟩
            · exact .inr h
          clear hj
          rcases hcase with ⟨h1, h2⟩ | h1
          · skip
            go_wp2_with (first | (refine wpList_slice_tail2 rfl 43 49 (.tmp 69) (.tmp 70) rfl Try.underlying43 (by kernel_rfl) A l.length cap at_ rfl rfl hat ?_))
            refine HP.out.mono ?_
            rintro e w3 ⟨rfl, A3, c3, hS3⟩
            rw [Nat.add_sub_cancel' hat] at hS3
            have hlen0 : (putsP [] 0 l).length = l.length := by rw [putsP_length]; simp
            have LA := Lib.hid (LeftAt.start hS3 (fun x hx => (HR.out x hx).1))
            have LN := Lib.hid (lenP_any hp c3 _ A3 _ w3 LA.out.hw)
            rw [hlen0] at LN
            generalize putsP [] 0 l = L3 at *
            clear hS3 HP hlen0 h1
            go_wp2_with fail
            refine LN.out.mono ?_
            rintro e w' ⟨rfl, rfl⟩
            clear LN
            go_wp2_with fail
            go_loopw [10] (fun vr wr => ∃ (r : Int) (A' : Option Addr) (c' : Nat) (L : List EnP), -128 ≤ r ∧ r ≤ 128 ∧ vr = .int .i64 r ∧ Hid (LeftAt w2 wr hp B A' c' l L r 0)) (fun vr _ => (128 - intOf vr).toNat)
            case atStart => exact ⟨-128, A3, c3, L3, by omega, by omega, rfl, LA⟩
            case round =>
              clear LA
              obtain ⟨r, A4, c4, L4, hr1, hr2, rfl, LA⟩ := hrel
              obtain ⟨w4, rfl⟩ : ∃ x, x = wr := ⟨_, rfl⟩
              by_cases hr : r < 128
              · go_wp2_with fail
                go_loopw [11] (fun vi wr => ∃ (i : Nat) (A' : Option Addr) (c' : Nat) (L : List EnP), i ≤ l.length ∧ vi = .int .i64 i ∧ Hid (LeftAt w2 wr hp B A' c' l L r i)) (fun vi _ => l.length - (intOf vi).toNat)
                case atStart => exact ⟨0, A4, c4, L4, by omega, rfl, LA⟩
                case round =>
                  clear LA
                  obtain ⟨i, A5, c5, L5, hi, rfl, LA⟩ := hrel
                  by_cases hlt : i < l.length
                  · obtain ⟨g, off, hA, hg, hx0, hx1⟩ := X2.out i l[i] (List.getElem?_eq_getElem hlt)
                    subst hA
                    have hgs : g < w2.heap.size := by omega
                    have cX : Hid (∀ W, Keeps (fun b => B ≤ b) w2 W → W.cell? ⟨g, off + i * 2, none⟩ = some (.int .i8 l[i].1) ∧ W.cell? ⟨g, off + i * 2 + 1, none⟩ = some (.string l[i].2)) := Lib.hid (fun W hW => ⟨(hW.cell hgs (by omega)).trans hx0, (hW.cell hgs (by omega)).trans hx1⟩)
                    have hrk := HR.out _ (List.getElem_mem hlt)
                    have cx0 := (cX.out wr LA.out.keeps).1
                    clear hx0 hx1
                    by_cases hre : l[i].1 = r
                    · have LT := Lib.hid (left_take hp c5 A5 B i r l L5 w2 wr LA.out hlt hre hlb)
                      have hne : ((l[i].1 : Int) != r) = false := by rw [hre]; simp
                      have HQ := Lib.hid (fun w => ne_pair l[i] l[i] w)
                      clear hre LA
                      generalize l[i] = x at *
                      go_wp2_with fail
                      refine LT.out.mono ?_
                      rintro e w5 ⟨rfl, hl5⟩
                      have L6 := Lib.hid hl5
                      clear hl5 LT hne cx0
                      go_wp2_with fail
                      obtain ⟨w6, hw6⟩ : ∃ z, z = w5.alloc (.cells #[.int .i8 x.1, .string x.2] 49) := ⟨_, rfl⟩
                      have K6 : Keeps (fun _ => False) w5 w6 := by rw [hw6]; exact (Keeps.refl _ _).alloc _
                      have W6 : Whole w6 w5.heap.size 49 #[.int .i8 x.1, .string x.2] := by rw [hw6]; exact Whole.made _ _ _
                      rw [← hw6]
                      have L7 := Lib.hid (L6.out.calm K6)
                      obtain ⟨cy0, cy1⟩ := cX.out w6 L7.out.keeps
                      have b0 : w6.cell? ⟨w5.heap.size, 0, none⟩ = some (.int .i8 x.1) := W6.cellAt 0
                      have b1 : w6.cell? ⟨w5.heap.size, 1, none⟩ = some (.string x.2) := W6.cellAt 1
                      have hiI : (i : Int) < (l.length : Int) := by omega
                      have hq := fun w => HQ.out w
                      simp only [decide_true, Bool.not_true] at hq
                      clear K6 W6 hw6 L6
                      obtain ⟨xb, hxb⟩ : ∃ z, z = w5.heap.size := ⟨_, rfl⟩
                      rw [← hxb] at b0 b1 ⊢
                      clear hxb
                      go_wp2_with fail
                      go_quiet (fail)
                      have L8 := Lib.hid (L7.out.calm ((Keeps.refl _ _).drewN nq))
                      clear L7 cy0 cy1 b0 b1 hq
                      go_wp2_with fail
                      go_roundw
                      case rel => exact ⟨i + 1, _, _, _, by omega, by go_num, L8⟩
                      case measure => simp [intOf]; omega
                    · have hne : ((l[i].1 : Int) != r) = true := by rw [bne_iff_ne]; exact hre
                      have hsk : Hid (LeftAt w2 wr hp B A5 c5 l L5 r (i + 1)) := Lib.hid ⟨LA.out.hw, LA.out.hp_, by rw [leftS_skip l r i hlt hre]; exact LA.out.perm, LA.out.keeps, LA.out.low⟩
                      clear hre LA
                      generalize l[i] = x at *
                      go_wp2_with fail
                      go_roundw
                      case rel => exact ⟨i + 1, _, _, _, by omega, by go_num, hsk⟩
                      case measure => simp [intOf]; omega
                  · obtain rfl : i = l.length := by omega
                    have LB : Hid (LeftAt w2 wr hp B A5 c5 l L5 (r + 1) 0) := Lib.hid ⟨LA.out.hw, LA.out.hp_, by rw [← leftS_turn]; exact LA.out.perm, LA.out.keeps, LA.out.low⟩
                    clear LA
                    go_wp2_with fail
                    go_roundw
                    case rel => exact ⟨r + 1, _, _, _, by omega, by omega, rfl, LB⟩
                    case measure => simp [intOf]; omega
              · obtain rfl : r = 128 := by omega
                have hnil : L4 = [] := by
                  have := LA.out.perm
                  rw [leftS_end l (fun x hx => (HR.out x hx).2)] at this
                  exact List.perm_nil.1 this
                subst hnil
                have HT := Lib.hid (htakeNoP_any hp c4 _ A4 w4 LA.out.hw)
                go_wp2_with fail
                refine HT.out.mono ?_
                rintro e w5 ⟨rfl, k5⟩
                have L5 := Lib.hid (LA.out.calm k5)
                clear HT k5 LA
                go_wp2_with fail
                obtain ⟨w6, hw6⟩ : ∃ z, z = w5.alloc (.cells #[.int .i8 0, .string ⟨#[]⟩] 49) := ⟨_, rfl⟩
                have L6 := Lib.hid (L5.out.calm (w' := w6) (by rw [hw6]; exact (Keeps.refl _ _).alloc _))
                rw [← hw6]
                have LN := Lib.hid (lenP_any hp c4 _ A4 _ w6 L6.out.hw)
                clear L5 hw6
                refine LN.out.mono ?_
                rintro e w' ⟨rfl, rfl⟩
                have KF : Hid (Below w.heap.size w w6) := Lib.hid ((KB.out.below (Nat.le_refl _) (fun _ h => h.elim)).trans (L6.out.keeps.below (by rw [← HB.out]; exact hB2) (fun b hb => by rw [← HB.out]; exact hb)))
                clear LN L6
                go_wp2_with fail
                go_ret
                exact ⟨rfl, KF.out⟩
          · skip
            go_wp2_with (first | (refine wpList_slice_tail2 rfl 43 49 (.tmp 69) (.tmp 70) rfl Try.underlying43 (by kernel_rfl) A l.length cap at_ rfl rfl hat ?_))
            refine HP.out.mono ?_
            rintro e w3 ⟨rfl, A3, c3, hS3⟩
            rw [Nat.add_sub_cancel' hat] at hS3
            have hlen0 : (putsP [] 0 l).length = l.length := by rw [putsP_length]; simp
            have LA := Lib.hid (LeftAt.start hS3 (fun x hx => (HR.out x hx).1))
            have LN := Lib.hid (lenP_any hp c3 _ A3 _ w3 LA.out.hw)
            rw [hlen0] at LN
            generalize putsP [] 0 l = L3 at *
            clear hS3 HP hlen0 h1
            go_wp2_with fail
            refine LN.out.mono ?_
            rintro e w' ⟨rfl, rfl⟩
            clear LN
            go_wp2_with fail
            go_loopw [10] (fun vr wr => ∃ (r : Int) (A' : Option Addr) (c' : Nat) (L : List EnP), -128 ≤ r ∧ r ≤ 128 ∧ vr = .int .i64 r ∧ Hid (LeftAt w2 wr hp B A' c' l L r 0)) (fun vr _ => (128 - intOf vr).toNat)
            case atStart => exact ⟨-128, A3, c3, L3, by omega, by omega, rfl, LA⟩
            case round =>
              clear LA
              obtain ⟨r, A4, c4, L4, hr1, hr2, rfl, LA⟩ := hrel
              obtain ⟨w4, rfl⟩ : ∃ x, x = wr := ⟨_, rfl⟩
              by_cases hr : r < 128
              · go_wp2_with fail
                go_loopw [11] (fun vi wr => ∃ (i : Nat) (A' : Option Addr) (c' : Nat) (L : List EnP), i ≤ l.length ∧ vi = .int .i64 i ∧ Hid (LeftAt w2 wr hp B A' c' l L r i)) (fun vi _ => l.length - (intOf vi).toNat)
                case atStart => exact ⟨0, A4, c4, L4, by omega, rfl, LA⟩
                case round =>
                  clear LA
                  obtain ⟨i, A5, c5, L5, hi, rfl, LA⟩ := hrel
                  by_cases hlt : i < l.length
                  · obtain ⟨g, off, hA, hg, hx0, hx1⟩ := X2.out i l[i] (List.getElem?_eq_getElem hlt)
                    subst hA
                    have hgs : g < w2.heap.size := by omega
                    have cX : Hid (∀ W, Keeps (fun b => B ≤ b) w2 W → W.cell? ⟨g, off + i * 2, none⟩ = some (.int .i8 l[i].1) ∧ W.cell? ⟨g, off + i * 2 + 1, none⟩ = some (.string l[i].2)) := Lib.hid (fun W hW => ⟨(hW.cell hgs (by omega)).trans hx0, (hW.cell hgs (by omega)).trans hx1⟩)
                    have hrk := HR.out _ (List.getElem_mem hlt)
                    have cx0 := (cX.out wr LA.out.keeps).1
                    clear hx0 hx1
                    by_cases hre : l[i].1 = r
                    · have LT := Lib.hid (left_take hp c5 A5 B i r l L5 w2 wr LA.out hlt hre hlb)
                      have hne : ((l[i].1 : Int) != r) = false := by rw [hre]; simp
                      have HQ := Lib.hid (fun w => ne_pair l[i] l[i] w)
                      clear hre LA
                      generalize l[i] = x at *
                      go_wp2_with fail
                      refine LT.out.mono ?_
                      rintro e w5 ⟨rfl, hl5⟩
                      have L6 := Lib.hid hl5
                      clear hl5 LT hne cx0
                      go_wp2_with fail
                      obtain ⟨w6, hw6⟩ : ∃ z, z = w5.alloc (.cells #[.int .i8 x.1, .string x.2] 49) := ⟨_, rfl⟩
                      have K6 : Keeps (fun _ => False) w5 w6 := by rw [hw6]; exact (Keeps.refl _ _).alloc _
                      have W6 : Whole w6 w5.heap.size 49 #[.int .i8 x.1, .string x.2] := by rw [hw6]; exact Whole.made _ _ _
                      rw [← hw6]
                      have L7 := Lib.hid (L6.out.calm K6)
                      obtain ⟨cy0, cy1⟩ := cX.out w6 L7.out.keeps
                      have b0 : w6.cell? ⟨w5.heap.size, 0, none⟩ = some (.int .i8 x.1) := W6.cellAt 0
                      have b1 : w6.cell? ⟨w5.heap.size, 1, none⟩ = some (.string x.2) := W6.cellAt 1
                      have hiI : (i : Int) < (l.length : Int) := by omega
                      have hq := fun w => HQ.out w
                      simp only [decide_true, Bool.not_true] at hq
                      clear K6 W6 hw6 L6
                      obtain ⟨xb, hxb⟩ : ∃ z, z = w5.heap.size := ⟨_, rfl⟩
                      rw [← hxb] at b0 b1 ⊢
                      clear hxb
                      go_wp2_with fail
                      go_quiet (fail)
                      have L8 := Lib.hid (L7.out.calm ((Keeps.refl _ _).drewN nq))
                      clear L7 cy0 cy1 b0 b1 hq
                      go_wp2_with fail
                      go_roundw
                      case rel => exact ⟨i + 1, _, _, _, by omega, by go_num, L8⟩
                      case measure => simp [intOf]; omega
                    · have hne : ((l[i].1 : Int) != r) = true := by rw [bne_iff_ne]; exact hre
                      have hsk : Hid (LeftAt w2 wr hp B A5 c5 l L5 r (i + 1)) := Lib.hid ⟨LA.out.hw, LA.out.hp_, by rw [leftS_skip l r i hlt hre]; exact LA.out.perm, LA.out.keeps, LA.out.low⟩
                      clear hre LA
                      generalize l[i] = x at *
                      go_wp2_with fail
                      go_roundw
                      case rel => exact ⟨i + 1, _, _, _, by omega, by go_num, hsk⟩
                      case measure => simp [intOf]; omega
                  · obtain rfl : i = l.length := by omega
                    have LB : Hid (LeftAt w2 wr hp B A5 c5 l L5 (r + 1) 0) := Lib.hid ⟨LA.out.hw, LA.out.hp_, by rw [← leftS_turn]; exact LA.out.perm, LA.out.keeps, LA.out.low⟩
                    clear LA
                    go_wp2_with fail
                    go_roundw
                    case rel => exact ⟨r + 1, _, _, _, by omega, by omega, rfl, LB⟩
                    case measure => simp [intOf]; omega
              · obtain rfl : r = 128 := by omega
                have hnil : L4 = [] := by
                  have := LA.out.perm
                  rw [leftS_end l (fun x hx => (HR.out x hx).2)] at this
                  exact List.perm_nil.1 this
                subst hnil
                have HT := Lib.hid (htakeNoP_any hp c4 _ A4 w4 LA.out.hw)
                go_wp2_with fail
                refine HT.out.mono ?_
                rintro e w5 ⟨rfl, k5⟩
                have L5 := Lib.hid (LA.out.calm k5)
                clear HT k5 LA
                go_wp2_with fail
                obtain ⟨w6, hw6⟩ : ∃ z, z = w5.alloc (.cells #[.int .i8 0, .string ⟨#[]⟩] 49) := ⟨_, rfl⟩
                have L6 := Lib.hid (L5.out.calm (w' := w6) (by rw [hw6]; exact (Keeps.refl _ _).alloc _))
                rw [← hw6]
                have LN := Lib.hid (lenP_any hp c4 _ A4 _ w6 L6.out.hw)
                clear L5 hw6
                refine LN.out.mono ?_
                rintro e w' ⟨rfl, rfl⟩
                have KF : Hid (Below w.heap.size w w6) := Lib.hid ((KB.out.below (Nat.le_refl _) (fun _ h => h.elim)).trans (L6.out.keeps.below (by rw [← HB.out]; exact hB2) (fun b hb => by rw [← HB.out]; exact hb)))
                clear LN L6
                go_wp2_with fail
                go_ret
                exact ⟨rfl, KF.out⟩
end Go.Proofs.Ytbfhbekocgdceaa
