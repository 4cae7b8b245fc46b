/-
  A state, read, and what may be: the plain laws. Conditions: none.
-/
import Derived.Test.YthmfbcfbcookiaaGreatDoorWMd
import Derived.Test.YthmfbcfbcookiaaGreatDoorRowW
namespace Go.Proofs.YthmfbcfbcookiaaGreatDoor
open Go.RowKit
structure St where
  players : List Pl
  cards : List Cd
  zones : List (List Int)
  turn : Int
  whose : Int
  fin : Int
  winner : Int
deriving DecidableEq
def statB (x : Int) : Bool := decide (-1000000000 ≤ x) && decide (x ≤ 1000000000)
def plB (p : Pl) : Bool := statB p.life && statB p.energy
def cardB (n : Nat) (c : Cd) : Bool := decide (0 ≤ c.kind) && decide (c.kind ≤ 255) && decide (0 ≤ c.owner) && decide (c.owner < (n : Int)) && statB c.power && statB c.health && statB c.damage && statB c.marks
def headB (s : St) : Bool := decide (2 ≤ s.players.length) && decide (s.players.length ≤ 4) && decide (1 ≤ s.cards.length) && decide (s.cards.length ≤ 256) && decide (s.zones.length = 4 * s.players.length)
def turnB (s : St) : Bool := decide (1 ≤ s.turn)
def whoseB (s : St) : Bool := decide (0 ≤ s.whose) && decide (s.whose < s.players.length)
def endB (s : St) : Bool := decide (s.fin = 0) || decide (s.fin = 1) || decide (s.fin = 2)
def winB (s : St) : Bool := if s.fin = 1 then decide (0 ≤ s.winner) && decide (s.winner < s.players.length) else decide (s.winner = 0)
/-- How many entries are good, ahead of the first that is not. -/
def lead (m : Nat) : List Int → List Int → Nat
  | _, [] => 0
  | seen, x :: r => if 0 ≤ x ∧ x < (m : Int) ∧ x ∉ seen then lead m (x :: seen) r + 1 else 0
/-- Entries that are all good. -/
def AllGood (m : Nat) (p : List Int) : Prop := p.Nodup ∧ ∀ x ∈ p, 0 ≤ x ∧ x < (m : Int)
theorem lead_append (m : Nat) (p : List Int) : ∀ (seen r : List Int), AllGood m p → (∀ x ∈ p, x ∉ seen) → lead m seen (p ++ r) = p.length + lead m (p.reverse ++ seen) r := by
  induction p with
  | nil => intro seen r _ _; simp
  | cons a p ih =>
    intro seen r hg hs
    have ha := hg.2 a (by simp)
    have hn := List.nodup_cons.1 hg.1
    rw [List.cons_append, lead, if_pos ⟨ha.1, ha.2, hs a (by simp)⟩, ih (a :: seen) r ⟨hn.2, fun x hx => hg.2 x (by simp [hx])⟩ (fun x hx hxs => ?_)]
    · simp only [List.length_cons, List.reverse_cons, List.append_assoc, List.cons_append, List.nil_append]; omega
    · rcases List.mem_cons.1 hxs with rfl | h
      · exact hn.1 hx
      · exact hs x (by simp [hx]) h
theorem lead_bad {m : Nat} {p r : List Int} {x : Int} (hg : AllGood m p) (hx : ¬ (0 ≤ x ∧ x < (m : Int) ∧ x ∉ p)) : lead m [] (p ++ x :: r) = p.length := by
  rw [lead_append m p [] _ hg (by simp), lead, if_neg (by simpa using hx)]
  omega
theorem lead_all {m : Nat} {p : List Int} (hg : AllGood m p) : lead m [] p = p.length := by
  have := lead_append m p [] [] hg (by simp)
  simpa [lead] using this
theorem AllGood.nil (m : Nat) : AllGood m [] := ⟨List.nodup_nil, fun x h => by simp at h⟩
theorem AllGood.snoc {m : Nat} {p : List Int} {x : Int} (hg : AllGood m p) (hx : 0 ≤ x ∧ x < (m : Int) ∧ x ∉ p) : AllGood m (p ++ [x]) :=
  ⟨List.nodup_append.2 ⟨hg.1, by simp, fun a ha b hb e => hx.2.2 (by simp at hb; subst hb; exact e ▸ ha)⟩, fun y hy => by
    rcases List.mem_append.1 hy with h | h
    · exact hg.2 y h
    · simp at h; subst h; exact ⟨hx.1, hx.2.1⟩⟩
/-- Numbers below m, each once: as many as m just if each is there. -/
theorem AllGood.full {m : Nat} : ∀ {p : List Int}, AllGood m p → p.length ≤ m ∧ (p.length = m ↔ ∀ i : Nat, i < m → (i : Int) ∈ p) := by
  induction m with
  | zero =>
    intro p hg
    have : p = [] := by
      cases p with
      | nil => rfl
      | cons a p => have := hg.2 a (by simp); omega
    subst this
    exact ⟨Nat.le_refl _, by simp⟩
  | succ m ih =>
    intro p hg
    by_cases hm : (m : Int) ∈ p
    · have hg' : AllGood m (p.erase (m : Int)) := ⟨hg.1.erase _, fun x hx => by
        have h1 := hg.2 x (List.mem_of_mem_erase hx)
        have h2 : x ≠ (m : Int) := fun e => by subst e; exact (List.Nodup.not_mem_erase hg.1) hx
        omega⟩
      obtain ⟨h1, h2⟩ := ih hg'
      have hl := List.length_erase_of_mem hm
      have hpos := List.length_pos_of_mem hm
      refine ⟨by omega, ⟨fun h i hi => ?_, fun h => ?_⟩⟩
      · by_cases e : i = m
        · subst e; exact hm
        · exact List.mem_of_mem_erase ((h2.1 (by omega)) i (by omega))
      · have := h2.2 fun i hi => (List.mem_erase_of_ne (by omega)).2 (h i (by omega))
        omega
    · have hg' : AllGood m p := ⟨hg.1, fun x hx => by
        have h1 := hg.2 x hx
        have h2 : x ≠ (m : Int) := fun e => hm (e ▸ hx)
        omega⟩
      obtain ⟨h1, h2⟩ := ih hg'
      exact ⟨by omega, ⟨fun h => by omega, fun h => absurd (h m (by omega)) hm⟩⟩
/-- Each thing that is looked at, in their order: is it so? -/
def thingsB (s : St) : List Bool :=
  if headB s = true then
    true :: (s.players.map plB ++ (s.cards.map (cardB s.players.length) ++ (List.replicate (lead s.cards.length [] s.zones.flatten) true ++
      (if lead s.cards.length [] s.zones.flatten < s.zones.flatten.length then [false] else [decide (s.zones.flatten.length = s.cards.length), turnB s, whoseB s, endB s, winB s]))))
  else [false]
def firstF : List Bool → Option Nat
  | [] => none
  | true :: l => (firstF l).map (· + 1)
  | false :: _ => some 0
/-- The answer of Check. -/
def answer (o : Option Nat) : Int × Int := match o with | none => (0, 0) | some i => (10, (i : Int))
def checkP (s : St) : Int × Int := answer (firstF (thingsB s))
theorem firstF_true (l m : List Bool) (h : ∀ b ∈ l, b = true) : firstF (l ++ m) = (firstF m).map (· + l.length) := by
  induction l with
  | nil => simp
  | cons a l ih =>
    have ha := h a (by simp); subst ha
    rw [List.cons_append, firstF, ih fun b hb => h b (by simp [hb]), Option.map_map]
    congr 1
theorem firstF_bad (l m : List Bool) (h : ∀ b ∈ l, b = true) : firstF (l ++ false :: m) = some l.length := by
  rw [firstF_true l _ h]; simp [firstF]
theorem check_head {s : St} (h : headB s = false) : checkP s = (10, 0) := by
  simp [checkP, thingsB, h, firstF, answer]
theorem check_player {s : St} {p : List Pl} {x : Pl} {r : List Pl} (h : headB s = true) (e : s.players = p ++ x :: r) (hp : ∀ a ∈ p, plB a = true) (hx : plB x = false) : checkP s = (10, 1 + (p.length : Int)) := by
  unfold checkP thingsB
  rw [if_pos h, e, List.map_append, List.map_cons, hx]
  rw [firstF, List.append_assoc, List.cons_append, firstF_bad _ _ (fun b hb => by obtain ⟨a, ha, rfl⟩ := List.mem_map.1 hb; exact hp a ha)]
  simp [answer]; omega
theorem check_card {s : St} {p : List Cd} {x : Cd} {r : List Cd} (h : headB s = true) (hpl : ∀ a ∈ s.players, plB a = true) (e : s.cards = p ++ x :: r) (hp : ∀ a ∈ p, cardB s.players.length a = true) (hx : cardB s.players.length x = false) : checkP s = (10, 1 + (s.players.length : Int) + (p.length : Int)) := by
  unfold checkP thingsB
  rw [if_pos h, firstF, firstF_true _ _ (fun b hb => by obtain ⟨a, ha, rfl⟩ := List.mem_map.1 hb; exact hpl a ha)]
  conv => lhs; rw [e]
  rw [List.map_append, List.map_cons, hx, List.append_assoc, List.cons_append, firstF_bad _ _ (fun b hb => by obtain ⟨a, ha, rfl⟩ := List.mem_map.1 hb; exact hp a ha)]
  simp [answer]; omega
theorem check_past {s : St} (h : headB s = true) (hpl : ∀ a ∈ s.players, plB a = true) (hcd : ∀ a ∈ s.cards, cardB s.players.length a = true) : checkP s = answer ((firstF (List.replicate (lead s.cards.length [] s.zones.flatten) true ++
      (if lead s.cards.length [] s.zones.flatten < s.zones.flatten.length then [false] else [decide (s.zones.flatten.length = s.cards.length), turnB s, whoseB s, endB s, winB s]))).map (· + (1 + s.players.length + s.cards.length))) := by
  unfold checkP thingsB
  rw [if_pos h, firstF, firstF_true _ _ (fun b hb => by obtain ⟨a, ha, rfl⟩ := List.mem_map.1 hb; exact hpl a ha), firstF_true _ _ (fun b hb => by obtain ⟨a, ha, rfl⟩ := List.mem_map.1 hb; exact hcd a ha)]
  rw [Option.map_map, Option.map_map]
  congr 2
  funext x
  simp; omega
theorem check_entry {s : St} {p r : List Int} {x : Int} (h : headB s = true) (hpl : ∀ a ∈ s.players, plB a = true) (hcd : ∀ a ∈ s.cards, cardB s.players.length a = true) (e : s.zones.flatten = p ++ x :: r) (hg : AllGood s.cards.length p) (hx : ¬ (0 ≤ x ∧ x < (s.cards.length : Int) ∧ x ∉ p)) :
    checkP s = (10, 1 + (s.players.length : Int) + (s.cards.length : Int) + (p.length : Int)) := by
  rw [check_past h hpl hcd, e, lead_bad hg hx, if_pos (by simp), firstF_bad _ _ (fun b hb => (List.mem_replicate.1 hb).2)]
  simp [answer]; omega
theorem check_rest {s : St} (h : headB s = true) (hpl : ∀ a ∈ s.players, plB a = true) (hcd : ∀ a ∈ s.cards, cardB s.players.length a = true) (hg : AllGood s.cards.length s.zones.flatten) :
    checkP s = answer ((firstF [decide (s.zones.flatten.length = s.cards.length), turnB s, whoseB s, endB s, winB s]).map (· + (1 + s.players.length + s.cards.length + s.zones.flatten.length))) := by
  rw [check_past h hpl hcd, lead_all hg, if_neg (Nat.lt_irrefl _), firstF_true _ _ (fun b hb => (List.mem_replicate.1 hb).2), Option.map_map]
  congr 2
  funext x
  simp; omega
end Go.Proofs.YthmfbcfbcookiaaGreatDoor
