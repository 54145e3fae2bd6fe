/-
  Plain laws of pairs of rectangles that have a place together, and how a row of structs of the call's own reads. Conditions: none; nothing here names the program.
-/
import Derived.Test.YthiccmncdmohbaaMHullInsides00
import Derived.Test.YthiccmncdmohbaaMHullInsides04
set_option linter.unusedVariables false
set_option linter.unusedSimpArgs false
namespace Go.Dam
open Go Go.RowKit
set_option linter.unusedVariables false
/-- Have rectangles a and b (a ahead of b) a place together? -/
def meets (l : List Int) (a b : Nat) : Bool :=
  decide (a < b ∧ ¬ (l.getD (a * 4 + 2) 0 < l.getD (b * 4) 0 ∨ l.getD (b * 4 + 2) 0 < l.getD (a * 4) 0 ∨ l.getD (a * 4 + 3) 0 < l.getD (b * 4 + 1) 0 ∨ l.getD (b * 4 + 3) 0 < l.getD (a * 4 + 1) 0))
theorem meets_iff (l : List Int) (a b : Nat) : meets l a b = true ↔ (a < b ∧ ¬ (l.getD (a * 4 + 2) 0 < l.getD (b * 4) 0 ∨ l.getD (b * 4 + 2) 0 < l.getD (a * 4) 0 ∨ l.getD (a * 4 + 3) 0 < l.getD (b * 4 + 1) 0 ∨ l.getD (b * 4 + 3) 0 < l.getD (a * 4 + 1) 0)) := by
  rw [meets, decide_eq_true_iff]
theorem meets_not (l : List Int) (a b : Nat) : meets l a b = false ↔ ¬ (a < b ∧ ¬ (l.getD (a * 4 + 2) 0 < l.getD (b * 4) 0 ∨ l.getD (b * 4 + 2) 0 < l.getD (a * 4) 0 ∨ l.getD (a * 4 + 3) 0 < l.getD (b * 4 + 1) 0 ∨ l.getD (b * 4 + 3) 0 < l.getD (a * 4 + 1) 0)) := by
  rw [meets, decide_eq_false_iff_not]
attribute [irreducible] meets
/-- The pairs of a with those below m; of all below n with all. -/
def pairRow (p : Nat → Nat → Bool) (a : Nat) : Nat → List Int
  | 0 => []
  | m + 1 => if p a m = true then pairRow p a m ++ [(a : Int), (m : Int)] else pairRow p a m
def pairAll (p : Nat → Nat → Bool) (n : Nat) : Nat → List Int
  | 0 => []
  | a + 1 => pairAll p n a ++ pairRow p a n
theorem pairRow_0 (p : Nat → Nat → Bool) (a : Nat) : pairRow p a 0 = [] := rfl
theorem pairRow_yes {p : Nat → Nat → Bool} {a m : Nat} (h : p a m = true) : pairRow p a (m + 1) = pairRow p a m ++ [(a : Int), (m : Int)] := by rw [pairRow, if_pos h]
theorem pairRow_no {p : Nat → Nat → Bool} {a m : Nat} (h : p a m = false) : pairRow p a (m + 1) = pairRow p a m := by rw [pairRow, if_neg (by simp [h])]
theorem pairAll_0 (p : Nat → Nat → Bool) (n : Nat) : pairAll p n 0 = [] := rfl
theorem pairAll_succ (p : Nat → Nat → Bool) (n a : Nat) : pairAll p n (a + 1) = pairAll p n a ++ pairRow p a n := rfl
theorem pairRow_none {p : Nat → Nat → Bool} {a : Nat} (h : ∀ b, b ≤ a → p a b = false) : ∀ m, m ≤ a + 1 → pairRow p a m = []
  | 0, _ => rfl
  | m + 1, hm => by rw [pairRow_no (h m (by omega)), pairRow_none h m (by omega)]
theorem pairRow_wf {p : Nat → Nat → Bool} {a : Nat} (ha : a ≤ 1000000) : ∀ m, m ≤ 1000000 → ∀ z ∈ pairRow p a m, (Lit.int .i64 z).wf = true
  | 0, _, z, hz => by simp [pairRow] at hz
  | m + 1, hm, z, hz => by
    have ih := pairRow_wf (p := p) ha m (by omega)
    rw [pairRow] at hz
    split at hz
    · rcases List.mem_append.1 hz with h | h
      · exact ih z h
      · simp at h
        rcases h with rfl | rfl <;> exact int_wf (by unfold I64; omega)
    · exact ih z hz
theorem pairAll_wf {p : Nat → Nat → Bool} {n : Nat} (hn : n ≤ 1000000) : ∀ a, a ≤ 1000000 → ∀ z ∈ pairAll p n a, (Lit.int .i64 z).wf = true
  | 0, _, z, hz => by simp [pairAll] at hz
  | a + 1, ha, z, hz => by
    rw [pairAll_succ] at hz
    rcases List.mem_append.1 hz with h | h
    · exact pairAll_wf hn a (by omega) z h
    · exact pairRow_wf (by omega) n hn z h
attribute [irreducible] pairRow pairAll
theorem meets_low (l : List Int) {a b : Nat} (h : b ≤ a) : meets l a b = false := (meets_not l a b).2 (by omega)
/-- A row of structs of m ints of the call's own reads as data. -/
theorem own_flat {w : World} {base E k m : Nat} {v : Value} {l : List Int} (h : w.ownsRow base E m v k (l.map (Value.int .i64))) (hk : k ≤ 140737488351232) (hw : ∀ z ∈ l, (Lit.int .i64 z).wf = true) : IsFlat m w w.heap.size v k l := by
  have hl : l.length = k * m := by have := h.1; simpa using this
  rcases h.2 with ⟨rfl, h0⟩ | ⟨g, cap, cur, rfl, _, _, hnc, hcm, _⟩
  · exact ⟨none, 0, by rw [h0], by omega, by unfold maxLen; omega, hk, hl, ⟨h.1, fun hp => absurd hp (by omega)⟩, hw⟩
  · exact ⟨_, cap, rfl, hnc, hcm, hk, hl, Reads.of_own h, hw⟩
theorem isFlat_nil (m : Nat) (w : World) (B : Nat) : IsFlat m w B (.slice none 0 0) 0 [] :=
  ⟨none, 0, rfl, by omega, by unfold maxLen; omega, by omega, by simp, ⟨by simp, fun h => absurd h (by omega)⟩, fun z hz => by cases hz⟩
/-- A box of four cells. -/
def Box4 (w : World) (g : Nat) (a b c d : Value) : Prop := w.cell? ⟨g, 0, none⟩ = some a ∧ w.cell? ⟨g, 1, none⟩ = some b ∧ w.cell? ⟨g, 2, none⟩ = some c ∧ w.cell? ⟨g, 3, none⟩ = some d
theorem Box4.keep {w w' : World} {g : Nat} {a b c d : Value} (h : Box4 w g a b c d) (hk : ∀ p : Addr, p.block = g → w'.cell? p = w.cell? p) : Box4 w' g a b c d :=
  ⟨(hk _ rfl).trans h.1, (hk _ rfl).trans h.2.1, (hk _ rfl).trans h.2.2.1, (hk _ rfl).trans h.2.2.2⟩
theorem Box4.alloc {w : World} {g : Nat} {a b c d : Value} (h : Box4 w g a b c d) (hg : g < w.heap.size) (o : Obj) : Box4 (w.alloc o) g a b c d :=
  h.keep fun p hp => World.cell?_alloc_lt w o p (by omega)
theorem Box4.grown {w w' : World} {g : Nat} {a b c d : Value} {row : Option Nat} (h : Box4 w g a b c d) (hg : w.grownBy w' row) (hlt : g < w.heap.size) (hne : row ≠ some g) : Box4 w' g a b c d :=
  h.keep fun p hp => World.cell?_of_block (hg.block p.block (by omega) (fun e => hne (by rw [← e, hp])))
theorem Box4.new {w : World} {g : Nat} {a b c d : Value} {t : TypeId} (hg : g = w.heap.size) : Box4 (w.alloc (.cells #[a, b, c, d] t)) g a b c d := by
  subst hg
  exact ⟨by simp, by simp, by simp, by simp⟩
theorem lies_ne {B g : Nat} {v v' : Value} (h : LiesOr B v v') (hv : v.ownBlock ≠ some g) (hB : g < B) : v'.ownBlock ≠ some g := fun e => by
  rcases h g e with h1 | h1
  · exact hv h1
  · omega
end Go.Dam
