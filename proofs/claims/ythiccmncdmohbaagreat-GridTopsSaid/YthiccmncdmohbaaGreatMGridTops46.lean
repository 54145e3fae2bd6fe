/-
  Texts of one claim behind each other. Conditions: none of its own.
-/
import Derived.Test.YthiccmncdmohbaaGreatMGridTops00
import Derived.Test.YthiccmncdmohbaaGreatMGridTops04
set_option linter.unusedVariables false
set_option linter.unusedSimpArgs false
/-
  Plain laws of pairs of rectangles that have a place together, and how a row of structs of the call's own reads. Conditions: none; nothing here names the program.
-/
namespace Go.Dam
open Go Go.RowKit
set_option linter.unusedVariables false
/-- Have rectangles a and b (a ahead of b) a place together? -/
def meets (l : List Int) (a b : Nat) : Bool :=
  decide (a < b ∧ ¬ (l.getD (a * 4 + 2) 0 < l.getD (b * 4) 0 ∨ l.getD (b * 4 + 2) 0 < l.getD (a * 4) 0 ∨ l.getD (a * 4 + 3) 0 < l.getD (b * 4 + 1) 0 ∨ l.getD (b * 4 + 3) 0 < l.getD (a * 4 + 1) 0))
theorem meets_iff (l : List Int) (a b : Nat) : meets l a b = true ↔ (a < b ∧ ¬ (l.getD (a * 4 + 2) 0 < l.getD (b * 4) 0 ∨ l.getD (b * 4 + 2) 0 < l.getD (a * 4) 0 ∨ l.getD (a * 4 + 3) 0 < l.getD (b * 4 + 1) 0 ∨ l.getD (b * 4 + 3) 0 < l.getD (a * 4 + 1) 0)) := by
  rw [meets, decide_eq_true_iff]
theorem meets_not (l : List Int) (a b : Nat) : meets l a b = false ↔ ¬ (a < b ∧ ¬ (l.getD (a * 4 + 2) 0 < l.getD (b * 4) 0 ∨ l.getD (b * 4 + 2) 0 < l.getD (a * 4) 0 ∨ l.getD (a * 4 + 3) 0 < l.getD (b * 4 + 1) 0 ∨ l.getD (b * 4 + 3) 0 < l.getD (a * 4 + 1) 0)) := by
  rw [meets, decide_eq_false_iff_not]
attribute [irreducible] meets
/-- The pairs of a with those below m; of all below n with all. -/
def pairRow (p : Nat → Nat → Bool) (a : Nat) : Nat → List Int
  | 0 => []
  | m + 1 => if p a m = true then pairRow p a m ++ [(a : Int), (m : Int)] else pairRow p a m
def pairAll (p : Nat → Nat → Bool) (n : Nat) : Nat → List Int
  | 0 => []
  | a + 1 => pairAll p n a ++ pairRow p a n
theorem pairRow_0 (p : Nat → Nat → Bool) (a : Nat) : pairRow p a 0 = [] := rfl
theorem pairRow_yes {p : Nat → Nat → Bool} {a m : Nat} (h : p a m = true) : pairRow p a (m + 1) = pairRow p a m ++ [(a : Int), (m : Int)] := by rw [pairRow, if_pos h]
theorem pairRow_no {p : Nat → Nat → Bool} {a m : Nat} (h : p a m = false) : pairRow p a (m + 1) = pairRow p a m := by rw [pairRow, if_neg (by simp [h])]
theorem pairAll_0 (p : Nat → Nat → Bool) (n : Nat) : pairAll p n 0 = [] := rfl
theorem pairAll_succ (p : Nat → Nat → Bool) (n a : Nat) : pairAll p n (a + 1) = pairAll p n a ++ pairRow p a n := rfl
theorem pairRow_none {p : Nat → Nat → Bool} {a : Nat} (h : ∀ b, b ≤ a → p a b = false) : ∀ m, m ≤ a + 1 → pairRow p a m = []
  | 0, _ => rfl
  | m + 1, hm => by rw [pairRow_no (h m (by omega)), pairRow_none h m (by omega)]
theorem pairRow_wf {p : Nat → Nat → Bool} {a : Nat} (ha : a ≤ 1000000) : ∀ m, m ≤ 1000000 → ∀ z ∈ pairRow p a m, (Lit.int .i64 z).wf = true
  | 0, _, z, hz => by simp [pairRow] at hz
  | m + 1, hm, z, hz => by
    have ih := pairRow_wf (p := p) ha m (by omega)
    rw [pairRow] at hz
    split at hz
    · rcases List.mem_append.1 hz with h | h
      · exact ih z h
      · simp at h
        rcases h with rfl | rfl <;> exact int_wf (by unfold I64; omega)
    · exact ih z hz
theorem pairAll_wf {p : Nat → Nat → Bool} {n : Nat} (hn : n ≤ 1000000) : ∀ a, a ≤ 1000000 → ∀ z ∈ pairAll p n a, (Lit.int .i64 z).wf = true
  | 0, _, z, hz => by simp [pairAll] at hz
  | a + 1, ha, z, hz => by
    rw [pairAll_succ] at hz
    rcases List.mem_append.1 hz with h | h
    · exact pairAll_wf hn a (by omega) z h
    · exact pairRow_wf (by omega) n hn z h
attribute [irreducible] pairRow pairAll
theorem meets_low (l : List Int) {a b : Nat} (h : b ≤ a) : meets l a b = false := (meets_not l a b).2 (by omega)
/-- A row of structs of m ints of the call's own reads as data. -/
theorem own_flat {w : World} {base E k m : Nat} {v : Value} {l : List Int} (h : w.ownsRow base E m v k (l.map (Value.int .i64))) (hk : k ≤ 140737488351232) (hw : ∀ z ∈ l, (Lit.int .i64 z).wf = true) : IsFlat m w w.heap.size v k l := by
  have hl : l.length = k * m := by have := h.1; simpa using this
  rcases h.2 with ⟨rfl, h0⟩ | ⟨g, cap, cur, rfl, _, _, hnc, hcm, _⟩
  · exact ⟨none, 0, by rw [h0], by omega, by unfold maxLen; omega, hk, hl, ⟨h.1, fun hp => absurd hp (by omega)⟩, hw⟩
  · exact ⟨_, cap, rfl, hnc, hcm, hk, hl, Reads.of_own h, hw⟩
theorem isFlat_nil (m : Nat) (w : World) (B : Nat) : IsFlat m w B (.slice none 0 0) 0 [] :=
  ⟨none, 0, rfl, by omega, by unfold maxLen; omega, by omega, by simp, ⟨by simp, fun h => absurd h (by omega)⟩, fun z hz => by cases hz⟩
/-- A box of four cells. -/
def Box4 (w : World) (g : Nat) (a b c d : Value) : Prop := w.cell? ⟨g, 0, none⟩ = some a ∧ w.cell? ⟨g, 1, none⟩ = some b ∧ w.cell? ⟨g, 2, none⟩ = some c ∧ w.cell? ⟨g, 3, none⟩ = some d
theorem Box4.keep {w w' : World} {g : Nat} {a b c d : Value} (h : Box4 w g a b c d) (hk : ∀ p : Addr, p.block = g → w'.cell? p = w.cell? p) : Box4 w' g a b c d :=
  ⟨(hk _ rfl).trans h.1, (hk _ rfl).trans h.2.1, (hk _ rfl).trans h.2.2.1, (hk _ rfl).trans h.2.2.2⟩
theorem Box4.alloc {w : World} {g : Nat} {a b c d : Value} (h : Box4 w g a b c d) (hg : g < w.heap.size) (o : Obj) : Box4 (w.alloc o) g a b c d :=
  h.keep fun p hp => World.cell?_alloc_lt w o p (by omega)
theorem Box4.grown {w w' : World} {g : Nat} {a b c d : Value} {row : Option Nat} (h : Box4 w g a b c d) (hg : w.grownBy w' row) (hlt : g < w.heap.size) (hne : row ≠ some g) : Box4 w' g a b c d :=
  h.keep fun p hp => World.cell?_of_block (hg.block p.block (by omega) (fun e => hne (by rw [← e, hp])))
theorem Box4.new {w : World} {g : Nat} {a b c d : Value} {t : TypeId} (hg : g = w.heap.size) : Box4 (w.alloc (.cells #[a, b, c, d] t)) g a b c d := by
  subst hg
  exact ⟨by simp, by simp, by simp, by simp⟩
theorem lies_ne {B g : Nat} {v v' : Value} (h : LiesOr B v v') (hv : v.ownBlock ≠ some g) (hB : g < B) : v'.ownBlock ≠ some g := fun e => by
  rcases h g e with h1 | h1
  · exact hv h1
  · omega
end Go.Dam

/-
  A row of the call's own that grew: what lies elsewhere is kept. Conditions: none; nothing here names the program.
-/
namespace Go.Dam
open Go Go.RowKit
set_option linter.unusedVariables false
/-- The row v grew to v'; other blocks that were there are kept. -/
def Grew (w w' : World) (v v' : Value) : Prop := w.grownBy w' v.ownBlock ∧ LiesOr w.heap.size v v'
theorem Grew.refl (w : World) (v : Value) : Grew w w v v := ⟨World.grownBy.refl w _, fun g h => .inl h⟩
theorem Grew.alloc {w w' : World} {v v' : Value} (h : Grew w w' v v') (o : Obj) : Grew w (w'.alloc o) v v' := ⟨h.1.trans (World.grownBy_alloc w' o _), h.2⟩
theorem Grew.trans {w w1 w2 : World} {v v1 v2 : Value} (h : Grew w w1 v v1) (k : Grew w1 w2 v1 v2) : Grew w w2 v v2 := by
  have hz := h.1.size
  refine ⟨h.1.andThen k.1 fun j hj => ?_, fun g hg => ?_⟩
  · rcases h.2 j hj with e | e
    · exact .inr e
    · exact .inl e
  · rcases k.2 g hg with e | e
    · exact h.2 g e
    · exact .inr (by omega)
theorem Grew.push {w w1 w2 : World} {v v1 v2 : Value} (h : Grew w w1 v v1) (k : w1.grownBy w2 v1.ownBlock) (l : LiesOr w1.heap.size v1 v2) : Grew w w2 v v2 := h.trans ⟨k, l⟩
theorem Grew.size {w w' : World} {v v' : Value} (h : Grew w w' v v') : w.heap.size ≤ w'.heap.size := h.1.size
/-- From a row in new memory: all that was there is kept. -/
theorem Grew.below {w w' : World} {v v' : Value} (h : Grew w w' v v') {B : Nat} (hB : B ≤ w.heap.size) (hv : ∀ g, v.ownBlock = some g → B ≤ g) : Below B w w' :=
  ⟨h.1.os, h.1.tape, h.1.output, h.1.size, fun i hi => h.1.block i (by omega) fun e => by have := hv i e.symm; omega⟩
theorem Grew.below_own {w w0 w' : World} {v v' : Value} (h : Grew w w' v v') {base n size : Nat} {e : TypeId} {xs : List Value} (ho : w.ownsRow base e size v n xs) {B : Nat} (hB : B ≤ base) (hz : B ≤ w.heap.size) (hb : Below B w0 w) : Below B w0 w' :=
  hb.trans (h.below hz fun g hg => by have := (ho.lt g hg).1; omega)
theorem Grew.cell {w w' : World} {v v' : Value} (h : Grew w w' v v') (p : Addr) (hp : p.block < w.heap.size) (hv : v.ownBlock ≠ some p.block) : w'.cell? p = w.cell? p := h.1.cell_far p hp fun e => hv e.symm
theorem Grew.blk {w w' : World} {v v' : Value} (h : Grew w w' v v') {g : Nat} {t : TypeId} {cs : Array Value} (hb : Blk w g t cs) (hv : v.ownBlock ≠ some g) : Blk w' g t cs := hb.grown h.1 fun e => hv e.symm
theorem Grew.far {w w' : World} {v v' : Value} (h : Grew w w' v v') {g : Nat} (hg : g < w.heap.size) (hv : v.ownBlock ≠ some g) : v'.ownBlock ≠ some g := lies_ne h.2 hv hg
theorem ne_own {w : World} {base n size g : Nat} {e : TypeId} {v : Value} {xs : List Value} (h : w.ownsRow base e size v n xs) (hg : w.heap.size ≤ g) : v.ownBlock ≠ some g := fun e => by have := (h.lt g e).2; omega
end Go.Dam
