/-
  Kinds: a sign looked for by its name: the walk. Conditions: the names stand apart; they and the text are no longer than Go's own limit.
-/
import Derived.Test.YtfcdbmfdaohpjaaDoorKinds
import Derived.Test.YtfcdbmfdaohpjaaDoorKindB
import Derived.Maps.Own
import Derived.Maps.OwnOps
import Derived.Maps.OwnSet
import Derived.Maps.Views
import Derived.RegionTactic
import Derived.Laws.EntriesVeiled
import Derived.ChangeAlike
namespace Go.Proofs.YtfcdbmfdaohpjaaDoor
open Go.RowKit Go.Maps Go.WideMaps
theorem key_law : Keyed Tryd.prog 9 := string_keyed Tryd.underlying9
theorem zero_int (w : World) : (zeroValue 3).run Tryd.prog w = .ok (.int .i64 0) w := by kernel_rfl
def keyLit (s : ByteArray) : Lit := .string s.data.toList
theorem keyLit_ne {a b : ByteArray} (h : a ≠ b) : keyLit a ≠ keyLit b := fun e => h (ByteArray.ext (Array.toList_inj.1 (by simpa [keyLit] using e)))
/-- What the map holds when the first k signs are laid in. -/
def dict (l : List Sg) : Nat → DataW Unit
  | 0 => .map []
  | k + 1 => (dict l k).put (keyLit (l.getD k ⟨⟨#[]⟩, [], 0, 0⟩).name) (.lit (.int .i64 (k : Int)))
theorem dict_map (l : List Sg) : ∀ k, IsMap (dict l k)
  | 0 => isMap_empty
  | k + 1 => (dict_map l k).put _ _
/-- The names of a list stand apart. -/
def Distinct (l : List Sg) : Prop := ∀ (i j : Nat) (a b : Sg), l[i]? = some a → l[j]? = some b → a.name = b.name → i = j
theorem isKey (s : ByteArray) : WideAt.IsKeyLit (keyLit s) := by
  unfold keyLit; exact trivial
theorem dict_yes (l : List Sg) (hd : Distinct l) (i : Nat) (a : Sg) (hi : l[i]? = some a) (z : DataW Unit) : ∀ k, k ≤ l.length → i < k → has (dict l k) (keyLit a.name) = true ∧ (dict l k).atKey (keyLit a.name) z = .lit (.int .i64 (i : Int))
  | 0, _, h => absurd h (Nat.not_lt_zero _)
  | k + 1, hk, h => by
    obtain ⟨b, hb⟩ : ∃ b, l[k]? = some b := ⟨_, List.getElem?_eq_getElem (by omega)⟩
    have hbd : l.getD k ⟨⟨#[]⟩, [], 0, 0⟩ = b := by rw [List.getD_eq_getElem?_getD, hb]; rfl
    unfold dict
    rw [hbd]
    by_cases e : i = k
    · subst e
      rw [hi] at hb
      obtain rfl : a = b := by injection hb
      exact ⟨has_put_same (dict_map l i) (isKey _) _, atKey_put_same (dict_map l i) (isKey _) _ _⟩
    · have hne : keyLit a.name ≠ keyLit b.name := keyLit_ne fun en => e (hd i k a b hi hb en)
      rw [has_put_other hne, atKey_put_other hne]
      exact dict_yes l hd i a hi z k (by omega) (by omega)
theorem dict_no (l : List Sg) (s : ByteArray) (hn : ∀ a ∈ l, a.name ≠ s) : ∀ k, k ≤ l.length → has (dict l k) (keyLit s) = false
  | 0, _ => rfl
  | k + 1, hk => by
    have hb : l.getD k ⟨⟨#[]⟩, [], 0, 0⟩ ∈ l := by
      rw [List.getD_eq_getElem?_getD, List.getElem?_eq_getElem (by omega)]; exact List.getElem_mem _
    unfold dict
    rw [has_put_other (keyLit_ne fun en => hn _ hb en.symm)]
    exact dict_no l s hn k (by omega)
theorem SgAt.cells_at {w : World} {g b : Nat} {l : List Sg} (h : Whole w g 55 (sgCells l b).toArray) (k : Nat) (s : Sg) (hs : l[k]? = some s) :
    w.cell? ⟨g, k * 4, none⟩ = some (.string s.name) ∧ w.cell? ⟨g, k * 4 + 1, none⟩ = some (.slice (some ⟨b + k, 0, none⟩) s.args.length s.args.length) ∧ w.cell? ⟨g, k * 4 + 2, none⟩ = some (.int .i8 s.tell) ∧ w.cell? ⟨g, k * 4 + 3, none⟩ = some (.func (.func s.gas) #[] #[]) := by
  have hc : ∀ j, j < 4 → w.cell? ⟨g, k * 4 + j, none⟩ = (s.cells (b + k))[j]? := fun j hj => by
    rw [h.cellAt, Nat.mul_comm, ← sgCells_get l b k s hs j hj]; simp
  exact ⟨hc 0 (by omega), hc 1 (by omega), hc 2 (by omega), hc 3 (by omega)⟩
theorem Whole.grown {w w' : World} {g : Nat} {t : TypeId} {cs : Array Value} {row : Option Nat} (h : Whole w g t cs) (hg : w.grownBy w' row) (hr : ∀ k, row = some k → g < k) : Whole w' g t cs :=
  (hg.block g h.inside (fun e => Nat.lt_irrefl _ (hr g e.symm))).trans h
theorem lit_inj {a b : Int} (h : (DataW.lit (.int .i64 a) : DataW Unit) = .lit (.int .i64 b)) : a = b := by injection h with h; injection h
set_option maxHeartbeats 1000000 in
theorem find_yes (l : List Sg) (g b : Nat) (i : Nat) (a : Sg) (w : World) (hl : SgAt w g b l) (hd : Distinct l) (hi : l[i]? = some a) (hsz : ∀ x ∈ l, x.name.size ≤ maxLen) (hm : l.length ≤ 100) :
    Calls Tryd.prog 58 #[.slice (some ⟨g, 0, none⟩) l.length l.length, .string a.name] w fun e w' => e = .returned (.tuple #[.int .i64 i, .agg (a.cells (b + i)).toArray, .bool true]) ∧ Below w.heap.size w w' := by
  have hmm := @run_makeMap Tryd.prog
  have hg := hl.1.inside
  have HL := Lib.hid hl
  clear hl
  go_enter Tryd.func58, Tryd.ntmps58
  go_wp2_with fail
  have hR0 : Whole ((w.alloc (.cells #[.string ⟨#[]⟩, .slice none 0 0, .int .i8 0, .nilFunc] 55)).alloc (.map #[] 0)) w.heap.size 55 #[.string ⟨#[]⟩, .slice none 0 0, .int .i8 0, .nilFunc] := (Whole.made w _ _).alloc _
  have hM0 : ((w.alloc (.cells #[.string ⟨#[]⟩, .slice none 0 0, .int .i8 0, .nilFunc] 55)).alloc (.map #[] 0)).ownsMap Tryd.prog 9 (plainElem Tryd.prog 3) (w.heap.size + 1) 0 (dict l 0) := by
    have := World.ownsMap_made (H := Unit) (w.alloc (.cells #[.string ⟨#[]⟩, .slice none 0 0, .int .i8 0, .nilFunc] 55)) Tryd.prog 9 (plainElem Tryd.prog 3)
    unfold dict
    simpa using this
  have HR0 := Lib.hid hR0; have HM0 := Lib.hid hM0
  have HB0 : Hid (Below w.heap.size w ((w.alloc (.cells #[.string ⟨#[]⟩, .slice none 0 0, .int .i8 0, .nilFunc] 55)).alloc (.map #[] 0))) := Lib.hid (((Below.refl _ w).alloc (Nat.le_refl _) _).alloc (by simp) _)
  clear hR0 hM0 hmm
  go_loopw [15] (fun vi wr => ∃ k : Nat, k ≤ l.length ∧ vi = .int .i64 k ∧ Hid (wr.ownsMap Tryd.prog 9 (plainElem Tryd.prog 3) (w.heap.size + 1) k (dict l k)) ∧
    Hid (Whole wr w.heap.size 55 #[.string ⟨#[]⟩, .slice none 0 0, .int .i8 0, .nilFunc]) ∧ Hid (Below w.heap.size w wr)) (fun vi _ => l.length - (intOf vi).toNat)
  case atStart => exact ⟨0, by omega, rfl, HM0, HR0, HB0⟩
  case round =>
    clear HR0 HM0 HB0
    obtain ⟨k, hk, rfl, HM, HR, HB⟩ := hrel
    by_cases hlt : k < l.length
    · obtain ⟨s, hs⟩ : ∃ s, l[k]? = some s := ⟨_, List.getElem?_eq_getElem hlt⟩
      obtain ⟨c0, c1, c2, c3⟩ := (SgAt.cells_at (HL.out.1.below HB.out hg) k s hs)
      have hkey : keyOf Tryd.prog 9 (.string s.name) = some (keyLit s.name) := keyOf_string_mk Tryd.underlying9 (hsz s (List.mem_of_getElem? hs))
      have HD : Hid ((dict l k).put (keyLit s.name) (.lit (.int .i64 (k : Int))) = dict l (k + 1)) := Lib.hid (by
        show _ = (dict l k).put (keyLit (l.getD k _).name) _
        rw [List.getD_eq_getElem?_getD, hs]; rfl)
      clear hs
      go_wp2_with (at_mapUpdate; go_must (refine wpList_mapUpdate_own _ rfl _ _ _ 126 rfl 9 3 key_law Tryd.underlying126 _ (w.heap.size + 1) k _ rfl (HM.out.alloc _) (by unfold maxLen; omega) _ _ _ rfl rfl hkey _ [] (plainElem_int Tryd.underlying3 (by simp [Lit.wf, IntKind.min, IntKind.max, IntKind.signed, IntKind.bits]; omega)) ?_); intro w1 hown1 hgrow1)
      rw [HD.out] at hown1
      have HM' := Lib.hid hown1
      have HR' : Hid (Whole w1 w.heap.size 55 #[.string ⟨#[]⟩, .slice none 0 0, .int .i8 0, .nilFunc]) := Lib.hid ((HR.out.alloc _).grown hgrow1 (fun j e => by injection e with e; omega))
      have HB' : Hid (Below w.heap.size w w1) := Lib.hid ((HB.out.alloc HB.out.size _).grown hgrow1 (Nat.le_trans HB.out.size (by simp)) (fun j e => by injection e with e; omega))
      clear hown1 hgrow1
      go_roundw
      case rel => exact ⟨k + 1, by omega, by go_num, HM', HR', HB'⟩
      case measure => simp [intOf]; omega
    · obtain rfl : k = l.length := by omega
      have hkey : keyOf Tryd.prog 9 (.string a.name) = some (keyLit a.name) := keyOf_string_mk Tryd.underlying9 (hsz a (List.mem_of_getElem? hi))
      have hil : i < l.length := (List.getElem?_eq_some_iff.1 hi).1
      obtain ⟨hhas, hat0⟩ := dict_yes l hd i a hi (.lit (.int .i64 0)) l.length (Nat.le_refl _) hil
      have HA := Lib.hid hat0; clear hat0
      have HP : Hid (∀ c, (dict l l.length).atKey (keyLit a.name) (.lit (.int .i64 0)) = .lit (.int .i64 c) → c = (i : Int)) := Lib.hid fun c e => lit_inj (e.symm.trans HA.out)
      have HH := Lib.hid hhas
      clear hhas HA
      obtain ⟨c0, c1, c2, c3⟩ := SgAt.cells_at (HL.out.1.below HB.out hg) i a hi
      obtain ⟨d0, d1, d2, d3⟩ : wr.cell? ⟨w.heap.size, 0, none⟩ = some (.string ⟨#[]⟩) ∧ wr.cell? ⟨w.heap.size, 1, none⟩ = some (.slice none 0 0) ∧ wr.cell? ⟨w.heap.size, 2, none⟩ = some (.int .i8 0) ∧ wr.cell? ⟨w.heap.size, 3, none⟩ = some .nilFunc :=
        ⟨HR.out.cellAt 0, HR.out.cellAt 1, HR.out.cellAt 2, HR.out.cellAt 3⟩
      have f0 := HR.out.free 0
      have f1 := HR.out.free 1
      have f2 := HR.out.free 2
      have f3 := HR.out.free 3
      go_wp2_with (at_lookup; go_must (refine wpList_lookup_own_ok_int _ rfl _ _ 126 rfl 9 3 .i64 key_law Tryd.underlying126 Tryd.underlying3 (zero_int _) (w.heap.size + 1) l.length (dict l l.length) rfl HM.out _ _ rfl hkey ?_); intro c hat _; obtain rfl := HP.out c hat; clear hat; rw [HH.out])
      go_region
      have HW4 := Lib.hid ((((HR.out.put 0 (.string a.name)).put 1 (.slice (some ⟨b + i, 0, none⟩) a.args.length a.args.length)).put 2 (.int .i8 a.tell)).put 3 (.func (.func a.gas) #[] #[]))
      have HB4 := Lib.hid (((((HB.out.setCell (p := ⟨w.heap.size, 0, none⟩) (Nat.le_refl _) (.string a.name)).setCell (p := ⟨w.heap.size, 1, none⟩) (Nat.le_refl _) (.slice (some ⟨b + i, 0, none⟩) a.args.length a.args.length)).setCell (p := ⟨w.heap.size, 2, none⟩) (Nat.le_refl _) (.int .i8 a.tell)).setCell (p := ⟨w.heap.size, 3, none⟩) (Nat.le_refl _) (.func (.func a.gas) #[] #[])).drew)
      have HW5 : Hid (Whole _ w.heap.size 55 (a.cells (b + i)).toArray) := Lib.hid HW4.out.drew
      clear HM HR HB HW4 c0 c1 c2 c3 d0 d1 d2 d3 f0 f1 f2 f3 HP HH
      generalize ((((wr.setCell ⟨w.heap.size, 0, none⟩ (.string a.name)).setCell ⟨w.heap.size, 1, none⟩ (.slice (some ⟨b + i, 0, none⟩) a.args.length a.args.length)).setCell ⟨w.heap.size, 2, none⟩ (.int .i8 a.tell)).setCell ⟨w.heap.size, 3, none⟩ (.func (.func a.gas) #[] #[])).drew = W4 at *
      obtain ⟨d0, d1, d2, d3⟩ : W4.cell? ⟨w.heap.size, 0, none⟩ = some (.string a.name) ∧ W4.cell? ⟨w.heap.size, 1, none⟩ = some (.slice (some ⟨b + i, 0, none⟩) a.args.length a.args.length) ∧ W4.cell? ⟨w.heap.size, 2, none⟩ = some (.int .i8 a.tell) ∧ W4.cell? ⟨w.heap.size, 3, none⟩ = some (.func (.func a.gas) #[] #[]) :=
        ⟨HW5.out.cellAt 0, HW5.out.cellAt 1, HW5.out.cellAt 2, HW5.out.cellAt 3⟩
      go_wp2_with fail
      exact bodyPost_ret (v := .tuple #[.int .i64 i, .agg (a.cells (b + i)).toArray, .bool true]) (by simp [results, Tryd.f58, go_sem, d0, d1, d2, d3, Sg.cells]) rfl ⟨rfl, HB4.out⟩
set_option maxHeartbeats 1000000 in
theorem find_no (l : List Sg) (g b : Nat) (x : ByteArray) (w : World) (hl : SgAt w g b l) (hno : ∀ a ∈ l, a.name ≠ x) (hx : x.size ≤ maxLen) (hsz : ∀ x ∈ l, x.name.size ≤ maxLen) (hm : l.length ≤ 100) :
    Calls Tryd.prog 58 #[.slice (some ⟨g, 0, none⟩) l.length l.length, .string x] w fun e w' => e = .returned (.tuple #[.int .i64 0, .agg #[.string ⟨#[]⟩, .slice none 0 0, .int .i8 0, .nilFunc], .bool false]) ∧ Below w.heap.size w w' := by
  have hmm := @run_makeMap Tryd.prog
  have hg := hl.1.inside
  have HL := Lib.hid hl
  clear hl
  go_enter Tryd.func58, Tryd.ntmps58
  go_wp2_with fail
  have hR0 : Whole ((w.alloc (.cells #[.string ⟨#[]⟩, .slice none 0 0, .int .i8 0, .nilFunc] 55)).alloc (.map #[] 0)) w.heap.size 55 #[.string ⟨#[]⟩, .slice none 0 0, .int .i8 0, .nilFunc] := (Whole.made w _ _).alloc _
  have hM0 : ((w.alloc (.cells #[.string ⟨#[]⟩, .slice none 0 0, .int .i8 0, .nilFunc] 55)).alloc (.map #[] 0)).ownsMap Tryd.prog 9 (plainElem Tryd.prog 3) (w.heap.size + 1) 0 (dict l 0) := by
    have := World.ownsMap_made (H := Unit) (w.alloc (.cells #[.string ⟨#[]⟩, .slice none 0 0, .int .i8 0, .nilFunc] 55)) Tryd.prog 9 (plainElem Tryd.prog 3)
    unfold dict
    simpa using this
  have HR0 := Lib.hid hR0; have HM0 := Lib.hid hM0
  have HB0 : Hid (Below w.heap.size w ((w.alloc (.cells #[.string ⟨#[]⟩, .slice none 0 0, .int .i8 0, .nilFunc] 55)).alloc (.map #[] 0))) := Lib.hid (((Below.refl _ w).alloc (Nat.le_refl _) _).alloc (by simp) _)
  clear hR0 hM0 hmm
  go_loopw [15] (fun vi wr => ∃ k : Nat, k ≤ l.length ∧ vi = .int .i64 k ∧ Hid (wr.ownsMap Tryd.prog 9 (plainElem Tryd.prog 3) (w.heap.size + 1) k (dict l k)) ∧
    Hid (Whole wr w.heap.size 55 #[.string ⟨#[]⟩, .slice none 0 0, .int .i8 0, .nilFunc]) ∧ Hid (Below w.heap.size w wr)) (fun vi _ => l.length - (intOf vi).toNat)
  case atStart => exact ⟨0, by omega, rfl, HM0, HR0, HB0⟩
  case round =>
    clear HR0 HM0 HB0
    obtain ⟨k, hk, rfl, HM, HR, HB⟩ := hrel
    by_cases hlt : k < l.length
    · obtain ⟨s, hs⟩ : ∃ s, l[k]? = some s := ⟨_, List.getElem?_eq_getElem hlt⟩
      obtain ⟨c0, c1, c2, c3⟩ := (SgAt.cells_at (HL.out.1.below HB.out hg) k s hs)
      have hkey : keyOf Tryd.prog 9 (.string s.name) = some (keyLit s.name) := keyOf_string_mk Tryd.underlying9 (hsz s (List.mem_of_getElem? hs))
      have HD : Hid ((dict l k).put (keyLit s.name) (.lit (.int .i64 (k : Int))) = dict l (k + 1)) := Lib.hid (by
        show _ = (dict l k).put (keyLit (l.getD k _).name) _
        rw [List.getD_eq_getElem?_getD, hs]; rfl)
      clear hs
      go_wp2_with (at_mapUpdate; go_must (refine wpList_mapUpdate_own _ rfl _ _ _ 126 rfl 9 3 key_law Tryd.underlying126 _ (w.heap.size + 1) k _ rfl (HM.out.alloc _) (by unfold maxLen; omega) _ _ _ rfl rfl hkey _ [] (plainElem_int Tryd.underlying3 (by simp [Lit.wf, IntKind.min, IntKind.max, IntKind.signed, IntKind.bits]; omega)) ?_); intro w1 hown1 hgrow1)
      rw [HD.out] at hown1
      have HM' := Lib.hid hown1
      have HR' : Hid (Whole w1 w.heap.size 55 #[.string ⟨#[]⟩, .slice none 0 0, .int .i8 0, .nilFunc]) := Lib.hid ((HR.out.alloc _).grown hgrow1 (fun j e => by injection e with e; omega))
      have HB' : Hid (Below w.heap.size w w1) := Lib.hid ((HB.out.alloc HB.out.size _).grown hgrow1 (Nat.le_trans HB.out.size (by simp)) (fun j e => by injection e with e; omega))
      clear hown1 hgrow1
      go_roundw
      case rel => exact ⟨k + 1, by omega, by go_num, HM', HR', HB'⟩
      case measure => simp [intOf]; omega
    · obtain rfl : k = l.length := by omega
      have hkey : keyOf Tryd.prog 9 (.string x) = some (keyLit x) := keyOf_string_mk Tryd.underlying9 hx
      have HH := Lib.hid (dict_no l x hno l.length (Nat.le_refl _))
      obtain ⟨d0, d1, d2, d3⟩ : wr.cell? ⟨w.heap.size, 0, none⟩ = some (.string ⟨#[]⟩) ∧ wr.cell? ⟨w.heap.size, 1, none⟩ = some (.slice none 0 0) ∧ wr.cell? ⟨w.heap.size, 2, none⟩ = some (.int .i8 0) ∧ wr.cell? ⟨w.heap.size, 3, none⟩ = some .nilFunc :=
        ⟨HR.out.cellAt 0, HR.out.cellAt 1, HR.out.cellAt 2, HR.out.cellAt 3⟩
      have f0 := HR.out.free 0
      have f1 := HR.out.free 1
      have f2 := HR.out.free 2
      have f3 := HR.out.free 3
      go_wp2_with (at_lookup; go_must (refine wpList_lookup_own_ok_int _ rfl _ _ 126 rfl 9 3 .i64 key_law Tryd.underlying126 Tryd.underlying3 (zero_int _) (w.heap.size + 1) l.length (dict l l.length) rfl HM.out _ _ rfl hkey ?_); intro c _ _; rw [HH.out])
      have HW5 := Lib.hid ((((HR.out.put 0 (.string ⟨#[]⟩)).put 1 (.slice none 0 0)).put 2 (.int .i8 0)).put 3 .nilFunc)
      have HB4 := Lib.hid ((((HB.out.setCell (p := ⟨w.heap.size, 0, none⟩) (Nat.le_refl _) (.string ⟨#[]⟩)).setCell (p := ⟨w.heap.size, 1, none⟩) (Nat.le_refl _) (.slice none 0 0)).setCell (p := ⟨w.heap.size, 2, none⟩) (Nat.le_refl _) (.int .i8 0)).setCell (p := ⟨w.heap.size, 3, none⟩) (Nat.le_refl _) .nilFunc)
      clear HM HR HB d0 d1 d2 d3 f0 f1 f2 f3 HH
      generalize (((wr.setCell ⟨w.heap.size, 0, none⟩ (.string ⟨#[]⟩)).setCell ⟨w.heap.size, 1, none⟩ (.slice none 0 0)).setCell ⟨w.heap.size, 2, none⟩ (.int .i8 0)).setCell ⟨w.heap.size, 3, none⟩ .nilFunc = W4 at *
      obtain ⟨d0, d1, d2, d3⟩ : W4.cell? ⟨w.heap.size, 0, none⟩ = some (.string ⟨#[]⟩) ∧ W4.cell? ⟨w.heap.size, 1, none⟩ = some (.slice none 0 0) ∧ W4.cell? ⟨w.heap.size, 2, none⟩ = some (.int .i8 0) ∧ W4.cell? ⟨w.heap.size, 3, none⟩ = some .nilFunc :=
        ⟨HW5.out.cellAt 0, HW5.out.cellAt 1, HW5.out.cellAt 2, HW5.out.cellAt 3⟩
      go_wp2_with fail
      exact bodyPost_ret (v := .tuple #[.int .i64 0, .agg #[.string ⟨#[]⟩, .slice none 0 0, .int .i8 0, .nilFunc], .bool false]) (by simp [results, Tryd.f58, go_sem, d0, d1, d2, d3]) rfl ⟨rfl, HB4.out⟩
theorem find_yes_n (n : Nat) (l : List Sg) (hn : l.length = n) (g b : Nat) (i : Nat) (a : Sg) (w : World) (hl : SgAt w g b l) (hd : Distinct l) (hi : l[i]? = some a) (hsz : ∀ x ∈ l, x.name.size ≤ maxLen) (hm : n ≤ 100) :
    Calls Tryd.prog 58 #[.slice (some ⟨g, 0, none⟩) n n, .string a.name] w fun e w' => e = .returned (.tuple #[.int .i64 i, .agg (a.cells (b + i)).toArray, .bool true]) ∧ Below w.heap.size w w' := by
  subst hn; exact find_yes l g b i a w hl hd hi hsz hm
theorem find_no_n (n : Nat) (l : List Sg) (hn : l.length = n) (g b : Nat) (x : ByteArray) (w : World) (hl : SgAt w g b l) (hno : ∀ a ∈ l, a.name ≠ x) (hx : x.size ≤ maxLen) (hsz : ∀ x ∈ l, x.name.size ≤ maxLen) (hm : n ≤ 100) :
    Calls Tryd.prog 58 #[.slice (some ⟨g, 0, none⟩) n n, .string x] w fun e w' => e = .returned (.tuple #[.int .i64 0, .agg #[.string ⟨#[]⟩, .slice none 0 0, .int .i8 0, .nilFunc], .bool false]) ∧ Below w.heap.size w w' := by
  subst hn; exact find_no l g b x w hl hno hx hsz hm
end Go.Proofs.YtfcdbmfdaohpjaaDoor
