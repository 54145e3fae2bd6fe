/-
  Contracts for the text of a tree: where a number lies in a list of ints, a bracket repeated, and what stands when the list of open nodes or the builder grows. Conditions: sizes.
-/
import Derived.Test.YtlojecajonhmhaaMParenTexts03
import Derived.Test.YtlojecajonhmhaaMParenTexts13
import Derived.Test.YtlojecajonhmhaaMParenTexts14
import Derived.Test.YtlojecajonhmhaaShelf
set_option linter.unusedVariables false
set_option linter.unusedSimpArgs false
namespace Go.Dam
open Go Go.RowKit
set_option linter.unusedVariables false
/-- Open nodes as values. -/
def opV (op : List Nat) : List Value := op.map fun k => Value.int .i64 ((k : Nat) : Int)
theorem opV_len (op : List Nat) : (opV op).length = op.length := by simp [opV]
theorem opV_snoc (op : List Nat) (i : Nat) : opV (op ++ [i]) = opV op ++ [.int .i64 (i : Int)] := by simp [opV]
theorem opV_left (k r : List Nat) : (opV (k ++ r)).take k.length = opV k := by
  unfold opV; rw [List.map_append, List.take_append_of_le_length (by simp), List.take_of_length_le (by simp)]
theorem opV_at (op : List Nat) {j : Nat} (h : j < op.length) : (opV op)[j]? = some (.int .i64 ((op.map fun k : Nat => (k : Int)).getD j 0)) := by
  unfold opV
  rw [List.getElem?_map, List.getD_eq_getElem?_getD, List.getElem?_map, List.getElem?_eq_getElem h]; rfl
attribute [irreducible] opV
/-- The place of a parent among open ones. -/
def opPlace (op : List Nat) (p : Int) : Int := Lib.idxOf (op.map fun k : Nat => (k : Int)) p
theorem opPlace_some {op k r : List Nat} {p : Int} (h : cutL op p = some (k, r)) : opPlace op p = (k.length : Int) - 1 := by
  obtain ⟨rfl, g⟩ := cutL_some h
  unfold opPlace
  rcases g with ⟨rfl, rfl⟩ | ⟨_, q, b, rfl, rfl, hq⟩
  · have := Lib.idxOf_miss ((([] ++ r : List Nat)).map fun k : Nat => (k : Int)) r.length (-1) (fun j hj => by
      rw [List.getD_eq_getElem?_getD, List.getElem?_map, List.nil_append, List.getElem?_eq_getElem hj]
      show ((r[j] : Nat) : Int) ≠ -1
      omega)
    rw [List.take_of_length_le (by simp)] at this
    rw [this]; rfl
  · have := Lib.idxOf_hit ((q ++ [b] ++ r).map fun k : Nat => (k : Int)) (q ++ [b] ++ r).length q.length (b : Int) (by simp) (by simp) (by
      rw [List.getD_eq_getElem?_getD, List.getElem?_map]; simp) (fun j hj => by
      rw [List.getD_eq_getElem?_getD, List.getElem?_map, List.append_assoc, List.getElem?_append_left hj, List.getElem?_eq_getElem hj]
      exact hq q[j] (List.getElem_mem hj))
    rw [List.take_of_length_le (by simp)] at this
    rw [this]; simp
theorem opPlace_none {op : List Nat} {p : Int} (h : cutL op p = none) : opPlace op p = -1 := by
  obtain ⟨_, g⟩ := cutL_none h
  unfold opPlace
  have := Lib.idxOf_miss (op.map fun k : Nat => (k : Int)) op.length p (fun j hj => by
    rw [List.getD_eq_getElem?_getD, List.getElem?_map, List.getElem?_eq_getElem hj]
    exact g op[j] (List.getElem_mem hj))
  rw [List.take_of_length_le (by simp)] at this
  exact this
attribute [irreducible] opPlace
theorem own_others {w w' : World} {base b n : Nat} {e T : TypeId} {v : Value} {xs : List Value} (h : w.ownsRow base T 1 v n xs) (hb : b < base) (he : T ≠ e) (hk : Lib.OthersKept e (some b) w w') : w'.ownsRow base T 1 v n xs := by
  obtain ⟨h1, h2⟩ := h
  refine ⟨h1, ?_⟩
  rcases h2 with h2 | ⟨g, cap, cur, e1, e2, e3, e4⟩
  · exact .inl h2
  · refine .inr ⟨g, cap, cur, e1, e2, hk g _ e3 (fun e => by cases e; omega) (fun c fz e => ?_), e4⟩
    injection e with _ e _
    exact he e
theorem isB_keeps {w w' : World} {T e : TypeId} {B b : Nat} {bs : List Value} (h : Lib.IsBuilder T e B b bs w) (hk : ∀ (k : Nat) (c : Array Value) (t : TypeId) (fz : Nat × Nat), w.heap[k]? = some (Obj.cells c t fz) → t = T ∨ t = e → w'.heap[k]? = some (Obj.cells c t fz)) : Lib.IsBuilder T e B b bs w' := by
  have go : ∀ p, Lib.BuilderAt T e B b p bs w → Lib.BuilderAt T e B b p bs w' := by
    intro p ⟨hB, v, hbk, hown, hne⟩
    refine ⟨hB, v, hk b _ _ _ hbk (.inl rfl), ⟨hown.1, ?_⟩, hne⟩
    rcases hown.2 with h2 | ⟨g, cap, cur, e1, e2, e3, e4⟩
    · exact .inl h2
    · exact .inr ⟨g, cap, cur, e1, e2, hk g _ _ _ e3 (.inr rfl), e4⟩
  rcases h with h | h
  · exact .inl (go _ h)
  · exact .inr (go _ h)
theorem isB_alloc {w : World} {T e : TypeId} {B b : Nat} {bs : List Value} (h : Lib.IsBuilder T e B b bs w) (o : Obj) : Lib.IsBuilder T e B b bs (w.alloc o) :=
  isB_keeps h fun k c t fz hc _ => (Lib.alloc_old w o k (Array.getElem?_eq_some_iff.1 hc).1).trans hc
theorem isB_grown {w w' : World} {T e E : TypeId} {B b base n : Nat} {bs xs : List Value} {v : Value} (h : Lib.IsBuilder T e B b bs w) (hown : w.ownsRow base E 1 v n xs) (hT : E ≠ T) (he : E ≠ e) (hg : w.grownBy w' v.ownBlock) : Lib.IsBuilder T e B b bs w' :=
  isB_keeps h fun k c t fz hc ht => by
    rw [hg.block k (Array.getElem?_eq_some_iff.1 hc).1 (fun e2 => by
      rcases hown.2 with ⟨rfl, _⟩ | ⟨g, cap, cur, rfl, _, hgg, _⟩
      · cases e2
      · have : k = g := by simpa [Value.ownBlock] using e2
        subst this
        rw [hc] at hgg
        injection hgg with hgg
        injection hgg with _ e3 _
        rcases ht with ht | ht
        · exact hT (e3.symm.trans ht)
        · exact he (e3.symm.trans ht))]
    exact hc
theorem isB_kept {w w' : World} {T e : TypeId} {B b : Nat} {bs : List Value} (h : Lib.IsBuilder T e B b bs w) (hk : Below w.heap.size w w') : Lib.IsBuilder T e B b bs w' :=
  isB_keeps h fun k c t fz hc _ => by
    have hlt := (Array.getElem?_eq_some_iff.1 hc).1
    rw [hk.block k hlt]; exact hc
/-- Brackets that close, as a string. -/
def closeS (n : Nat) : ByteArray := ⟨(List.replicate n (41 : UInt8)).toArray⟩
theorem closeS_cells (n : Nat) : Lib.strCells (closeS n) = Lib.byteCells (List.replicate n 41) := by
  unfold closeS Lib.strCells Lib.byteCells; simp
theorem closeS_size (n : Nat) : (closeS n).size = n := by unfold closeS; simp [ByteArray.size]
theorem repeatL_one : ∀ n : Nat, Lib.repeatL [41] n = List.replicate n (41 : UInt8)
  | 0 => rfl
  | n + 1 => by
    have := repeatL_one n
    simp only [Lib.repeatL] at this ⊢
    simp_all [List.replicate_succ]
attribute [irreducible] closeS
end Go.Dam
namespace Go.Proofs.Ytlojecajonhmhaa
open Go Go.RowKit Go.Dam
set_option linter.unusedVariables false
theorem repeat_any (n : Nat) (w : World) (hn : n ≤ 1000) : Calls Try.prog 20 #[.string ⟨#[41]⟩, .int .i64 n] w fun e w' => e = .returned (.string (closeS n)) ∧ Below w.heap.size w w' := by
  unfold closeS
  match n, hn with
  | 0, _ => exact (Try.strings_Repeat_zero ⟨#[41]⟩ w).mono fun e w' ⟨he, hw⟩ => ⟨he, hw ▸ Below.refl _ _⟩
  | 1, _ => exact (Try.strings_Repeat_one ⟨#[41]⟩ w).mono fun e w' ⟨he, hw⟩ => ⟨he, hw ▸ Below.refl _ _⟩
  | n + 2, hn =>
    refine (Try.strings_Repeat_main ⟨#[41]⟩ (n + 2) w (by omega) (by omega) (by show 1 * (n + 2) ≤ _; omega) (by decide)).mono fun e w' ⟨he, hb⟩ => ⟨he.trans ?_, hb⟩
    rw [show (⟨#[41]⟩ : ByteArray).data.toList = [41] from rfl, repeatL_one]
theorem index_any {w : World} {base n : Nat} {v : Value} {op : List Nat} (p : Int) (h : w.ownsRow base 3 1 v n (opV op)) (hn : n = op.length) (hs : n ≤ 1000) : Calls Try.prog 18 #[v, .int .i64 p] w fun e w' => e = .returned (.int .i64 (opPlace op p)) ∧ w' = w := by
  unfold opPlace
  obtain ⟨h1, h2⟩ := h
  rcases h2 with ⟨rfl, h0⟩ | ⟨g, cap, cur, rfl, e2, e3, e4, e5, e6, e7⟩
  · obtain rfl : op = [] := List.eq_nil_of_length_eq_zero (by omega)
    exact Try.slices_Index_int_empty none 0 p w
  · have := Try.slices_Index_int g 0 n cap (op.map fun k : Nat => (k : Int)) p w (by simp; omega) (by omega) (fun j hj => by
      rw [List.length_map] at hj
      rw [Nat.zero_add, Lib.cell_of_heap e3, ← opV_at op hj, ← e7, List.getElem?_take_of_lt (by omega), Array.getElem?_toList])
    rw [List.take_of_length_le (by simp; omega)] at this
    exact this
end Go.Proofs.Ytlojecajonhmhaa
