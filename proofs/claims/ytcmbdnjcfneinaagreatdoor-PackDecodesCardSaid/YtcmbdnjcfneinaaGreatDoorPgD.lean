/-
  Two packs that were read lie in a bag: plain laws of memory. Conditions: none.
-/
import Derived.Test.YtcmbdnjcfneinaaGreatDoorPgB
import Derived.Test.YtcmbdnjcfneinaaGreatDoorPgC
import Derived.Test.YtcmbdnjcfneinaaGreatDoorQdP
namespace Go.Proofs.YtcmbdnjcfneinaaGreatDoor
open Go.RowKit
/-- Lists that stand among pieces of memory, in their order. -/
inductive Emb (F : Sl → Loc → Prop) : List Sl → List Loc → Prop
  | nil : Emb F [] []
  | skip {l : List Sl} {e : Loc} {L : List Loc} (h : Emb F l L) : Emb F l (e :: L)
  | take {r : Sl} {l : List Sl} {e : Loc} {L : List Loc} (hr : F r e) (h : Emb F l L) : Emb F (r :: l) (e :: L)
section
variable {F : Sl → Loc → Prop} {l m : List Sl} {L M : List Loc}
theorem Emb.append (h : Emb F l L) (k : Emb F m M) : Emb F (l ++ m) (L ++ M) := by
  induction h with
  | nil => exact k
  | skip _ ih => exact .skip ih
  | take hr _ ih => exact .take hr ih
theorem Emb.one {i j : Nat} {r : Sl} {e : Loc} (h : j = i → F r e) : Emb F (one i r j) [e] := by
  unfold Go.Proofs.YtcmbdnjcfneinaaGreatDoor.one
  by_cases q : j = i
  · rw [if_pos q]; exact .take (h q) .nil
  · rw [if_neg q]; exact .skip .nil
theorem Emb.flat {α : Type} {f : α → List Sl} {g : α → List Loc} : ∀ (l : List α), (∀ x ∈ l, Emb F (f x) (g x)) → Emb F (l.flatMap f) (l.flatMap g)
  | [], _ => .nil
  | a :: l, h => by
    rw [List.flatMap_cons, List.flatMap_cons]
    exact (h a (by simp)).append (Emb.flat l fun x hx => h x (by simp [hx]))
theorem Emb.mem (h : Emb F l L) : ∀ r ∈ l, ∃ e ∈ L, F r e := by
  induction h with
  | nil => intro r hr; cases hr
  | skip _ ih =>
    intro r hr
    obtain ⟨e, he, hf⟩ := ih r hr
    exact ⟨e, by simp [he], hf⟩
  | take hr _ ih =>
    intro r hr'
    rcases List.mem_cons.1 hr' with rfl | hr'
    · exact ⟨_, by simp, hr⟩
    · obtain ⟨e, he, hf⟩ := ih r hr'
      exact ⟨e, by simp [he], hf⟩
theorem Emb.pair (h : Emb F l L) (hF : ∀ r e, F r e → e.blk = r.blk) (hp : L.Pairwise Loc.far) : l.Pairwise fun r q => ∀ b, r.blk = some b → q.blk ≠ some b := by
  induction h with
  | nil => exact .nil
  | skip _ ih => exact ih (List.pairwise_cons.1 hp).2
  | @take r l e L hr h ih =>
    obtain ⟨h1, h2⟩ := List.pairwise_cons.1 hp
    refine List.pairwise_cons.2 ⟨fun q hq b hb hb' => ?_, ih h2⟩
    obtain ⟨e', he', hf⟩ := h.mem q hq
    exact h1 e' he' b ((hF r e hr).trans hb) ((hF q e' hf).trans hb')
end
/-- A piece of memory holds a list of the kind j. -/
def FitJ (j : Nat) (r : Sl) (e : Loc) : Prop := e.blk = r.blk ∧ (∀ w, e.holds w → ∃ xs, w.ownsRow 0 (bgT j) (bgS j) r.val r.len xs) ∧ r.len ≤ 1000000000
theorem FitJ.own {j B s n cap : Nat} {t : TypeId} {A : Option Addr} {xs : List Value} (ht : bgT j = t) (hs : bgS j = s) (hn : n ≤ 1000000000) : FitJ j ⟨A, n, cap⟩ (Loc.own B t s (.slice A n cap) n xs) :=
  ⟨rfl, fun w h => ⟨xs, by rw [ht, hs]; exact World.ownsRow.mono h (Nat.zero_le _)⟩, hn⟩
theorem emb_pe (j B : Nat) (x : PE) (hx : EffFew x.e) : Emb (FitJ j) (peL x j) (x.locs B) :=
  (Emb.one (i := 5) (j := j) (r := x.sl) (e := x.slots B) fun e => by subst e; exact FitJ.own rfl rfl hx.slots).append (Emb.one (i := 0) (j := j) (r := x.co) (e := x.code B) fun e => by subst e; exact FitJ.own rfl rfl hx.code)
theorem emb_pk (j B : Nat) (x : PK) (hx : KndFew x.knd) : Emb (FitJ j) (pkL x j) (x.locs B) := by
  have hl : x.es.length ≤ 1000000000 := by have := hx.effs; unfold PK.knd at this; simpa using this
  have he : ∀ q ∈ x.es, EffFew q.e := fun q hq => hx.each q.e (List.mem_map.2 ⟨q, hq, rfl⟩)
  exact (Emb.one (i := 1) (j := j) (r := x.tg) (e := x.tagsL B) fun e => by subst e; exact FitJ.own rfl rfl hx.tags).append ((Emb.one (i := 18) (j := j) (r := x.ef) (e := x.effsL B) fun e => by subst e; exact FitJ.own rfl rfl hl).append
    (Emb.flat x.es fun q hq => emb_pe j B q (he q hq)))
def PPk.locs' (B : Nat) (x : PPk) : List Loc := [x.intsL B] ++ ([x.textsL B] ++ ([x.kindsL B] ++ x.ks.flatMap (PK.locs B)))
theorem PPk.perm (B : Nat) (x : PPk) : (x.locs B).Perm (x.locs' B) := by
  unfold PPk.locs PPk.locs'
  generalize x.ks.flatMap (PK.locs B) = Q
  exact ((List.Perm.swap _ _ _).trans ((List.Perm.swap _ _ _).cons _)).trans (List.Perm.swap _ _ _)
theorem emb_pp (j B : Nat) (x : PPk) (hx : PkFew (toPk x.x)) : Emb (FitJ j) (ppL x j) (x.locs' B) := by
  have hl : x.ks.length ≤ 1000000000 := by have := hx.kinds; unfold toPk PPk.x at this; simpa using this
  have he : ∀ q ∈ x.ks, KndFew q.knd := fun q hq => hx.each q.knd (List.mem_map.2 ⟨q, hq, rfl⟩)
  exact (Emb.one (i := 2) (j := j) (r := x.is) (e := x.intsL B) fun e => by subst e; exact FitJ.own rfl rfl hx.ints).append ((Emb.one (i := 6) (j := j) (r := x.ts) (e := x.textsL B) fun e => by subst e; exact FitJ.own rfl rfl hx.texts).append
    ((Emb.one (i := 19) (j := j) (r := x.kk) (e := x.kindsL B) fun e => by subst e; exact FitJ.own rfl rfl hl).append (Emb.flat x.ks fun q hq => emb_pk j B q (he q hq))))
/-- Pieces made later, beside those made ahead. -/
theorem Sep.cat {w0 w1 w2 : World} {L M : List Loc} (h : Sep w0 w1 L) (k : Sep w1 w2 M) : Sep w0 w2 (L ++ M) :=
  ⟨h.old.trans k.old, fun e he b hb => by
    rcases List.mem_append.1 he with he | he
    · exact h.low e he b hb
    · exact Nat.le_trans h.old.size (k.low e he b hb),
   fun e he => by
    rcases List.mem_append.1 he with he | he
    · exact (h.past k.old).all e he
    · exact k.all e he,
   List.pairwise_append.2 ⟨h.apart, k.apart, fun a ha b hb x hx hx' => by
    have h1 := a.inside w1 (h.all a ha) x hx
    have h2 := k.low b hb x hx'
    omega⟩⟩
/-- The lists of a kind, as they lie. -/
theorem sep_rows {w0 w : World} {L : List Loc} {j : Nat} {l : List Sl} (h : Sep w0 w L) (he : Emb (FitJ j) l L) : SlRows (bgT j) (bgS j) l w ∧ (∀ b, blks l b → w0.heap.size ≤ b) ∧ ∀ (k : Nat) (r : Sl), l[k]? = some r → r.len ≤ 1000000000 := by
  have hp := he.pair (fun r e h => h.1) h.apart
  rw [List.pairwise_iff_getElem] at hp
  refine ⟨⟨fun k r hr => ?_, fun i k r q b hr hq hb hb' => ?_⟩, fun b hb => ?_, fun k r hr => ?_⟩
  · obtain ⟨e, hm, hf⟩ := he.mem r (List.mem_of_getElem? hr)
    exact hf.2.1 w (h.all e hm)
  · obtain ⟨hi, rfl⟩ := List.getElem?_eq_some_iff.1 hr
    obtain ⟨hk, rfl⟩ := List.getElem?_eq_some_iff.1 hq
    rcases Nat.lt_trichotomy i k with h1 | h1 | h1
    · exact (hp i k hi hk h1 b hb hb').elim
    · exact h1
    · exact (hp k i hk hi h1 b hb' hb).elim
  · obtain ⟨k, r, hr, hb⟩ := hb
    obtain ⟨e, hm, hf⟩ := he.mem r (List.mem_of_getElem? hr)
    exact h.low e hm b (hf.1.trans hb)
  · obtain ⟨e, hm, hf⟩ := he.mem r (List.mem_of_getElem? hr)
    exact hf.2.2
theorem bagNone_is : bagNone = bagV (fun _ => []) (fun _ => none) (fun _ => 0) := rfl
/-- A new bag, two packs to come. -/
theorem BagT.start {w0 w1 : World} {x y : PPk} {B C : Nat} (hx : PkFew (toPk x.x)) (hy : PkFew (toPk y.x)) (h : Sep w0 w1 (x.locs B ++ y.locs C)) :
    BagT (w1.alloc (.cells bagNone 67)) w1.heap.size (app (ppL x) (ppL y)) (app (ppL x) (ppL y)) ∧ ∀ b, (∃ j ∈ bgK, blks (app (ppL x) (ppL y) j) b) → w0.heap.size ≤ b := by
  have hS := h.perm ((x.perm B).append (y.perm C))
  have hk := (Keeps.refl (fun _ => False) w1).alloc (.cells bagNone 67)
  have hj : ∀ j, SlRows (bgT j) (bgS j) (app (ppL x) (ppL y) j) w1 ∧ (∀ b, blks (app (ppL x) (ppL y) j) b → w0.heap.size ≤ b) ∧ ∀ (k : Nat) (r : Sl), (app (ppL x) (ppL y) j)[k]? = some r → r.len ≤ 1000000000 := fun j => sep_rows hS ((emb_pp j B x hx).append (emb_pp j C y hy))
  refine ⟨⟨fun _ => [], fun _ => none, fun _ => 0, ⟨?_, fun j _ => ?_, fun j _ => ⟨rfl, rfl, rfl⟩⟩, fun j => ⟨[], rfl, rfl⟩⟩, fun b ⟨j, _, hb⟩ => (hj j).2.1 b hb⟩
  · rw [← bagNone_is]
    exact Whole.made w1 _ _
  · obtain ⟨h1, h2, h3⟩ := hj j
    exact BagK1.nil _ _ _ _ _ _ (h1.keeps hk (fun _ _ _ _ _ => id)) (fun b hb => blks_lt h1 hb) h3
/-- The effects of a pack's kinds, as the bag is filled. -/
theorem PPk.at_ {w0 w : World} {B p : Nat} {x : PPk} (h : Sep w0 w (x.locs B)) (hp : w.heap.size ≤ p) (hm : ∀ k ∈ x.ks, k.es.length < 400) : Lies w p x.Ak (kndVals x.ks) ∧ ∀ k ∈ x.ks, KdAt w p k := by
  have hk : w.ownsRow B 40 6 (.slice x.Ak x.ks.length x.ck) x.ks.length (kndVals x.ks) := h.all _ (PPk.kinds_mem B x)
  refine ⟨(own_lies_q hk).more hp, fun k hk' => ⟨hm k hk', ?_⟩⟩
  have he : w.ownsRow B 43 4 (.slice k.Ae k.es.length k.ce) k.es.length (effVals k.es) := h.all _ (PPk.ks_mem hk' (PK.effs_mem B k))
  exact (own_lies_q he).more hp
/-- What Decode answers: a pack in memory of its own. -/
theorem dec_own {w w' : World} {b : List Oct} {cs : Array Value} (h : DecOut w w' b cs) : ∃ (p : PPk) (B : Nat), cs = p.vals ∧ toPk p.x = (decP b).1 ∧ Sep w w' (p.locs B) ∧ PkFew (toPk p.x) ∧ p.ks.length < 400 ∧ ∀ k ∈ p.ks, k.es.length < 400 := by
  obtain ⟨hk, h1, h2⟩ := h
  by_cases e : (decP b).2.1 = 0
  · obtain ⟨p, B, h3, h4, h5⟩ := h2 e
    obtain ⟨hc, _, _, hg⟩ := enc_dec e
    rw [← h4] at hc hg
    refine ⟨p, B, h3, h4, h5, few_pk hg, ?_, fun k hk' => ?_⟩
    · have : (toPk p.x).kinds.length ≤ 256 := by
        unfold chk at hc
        repeat' split at hc
        all_goals first | omega | (exfalso; omega)
      have h6 : (toPk p.x).kinds.length = p.ks.length := by simp [toPk, PPk.x]
      omega
    · have h7 := (hg.kinds.2 k.knd (List.mem_map.2 ⟨k, hk', rfl⟩)).2.2.2.2.2.1
      have h8 : k.knd.effs.length = k.es.length := by simp [PK.knd]
      omega
  · have hz : (decP b).1 = zeroPk := by
      unfold decP at e ⊢
      split
      · rfl
      · rename_i h9
        rw [if_neg h9] at e
        split
        · rfl
        · rename_i x j hx
          rw [hx] at e
          simp only [] at e
          split
          · rfl
          · rename_i h10
            rw [if_neg h10] at e
            split
            · rfl
            · rename_i h11
              rw [if_neg h11] at e
              exact absurd rfl e
    refine ⟨⟨0, [], none, 0, [], none, 0, [], none, 0⟩, 0, h1 e, hz.symm, ?_, ?_, by simp, fun k hk' => by cases hk'⟩
    · have s0 := (Sep.start w).past hk
      exact ((s0.nil 0 2 1).nil 0 9 1).nil 0 40 6
    · exact ⟨by simp [toPk, PPk.x], by simp [toPk, PPk.x], fun t ht => by simp [toPk, PPk.x] at ht, by simp [toPk, PPk.x], fun k hk' => by simp [toPk, PPk.x] at hk', fun a ha => by simp [toPk, PPk.x] at ha⟩
end Go.Proofs.YtcmbdnjcfneinaaGreatDoor
