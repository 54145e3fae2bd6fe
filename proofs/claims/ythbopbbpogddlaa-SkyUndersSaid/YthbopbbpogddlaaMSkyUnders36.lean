/-
  Texts of one claim behind each other. Conditions: none of its own.
-/
import Derived.Test.YthbopbbpogddlaaMSkyUnders17
import Derived.Test.YthbopbbpogddlaaMSkyUnders27
import Derived.Test.YthbopbbpogddlaaMSkyUnders35
import Derived.Test.YthbopbbpogddlaaMSkyUnders16
/-
  Plain laws of grid.Count, no program in sight: what the wave of the ranks counts below a number is what the points count; two such counts are what a rectangle holds. Conditions: none.
-/
namespace Go.Dam
open Go Go.RowKit
set_option linter.unusedVariables false
/-- How many of the places between a and b of the order have an Y below y (or at it). -/
def belowN (l : List Int) (r : List Nat) (n a b : Nat) (y : Int) (at_ : Bool) : Nat := countN (fun j => decide (a ≤ j ∧ j < b) && !isAb (yOf l r j) y at_) n
theorem belowN_le (l : List Int) (r : List Nat) (n a b : Nat) (y : Int) (at_ : Bool) : belowN l r n a b y at_ ≤ n := countN_le _ _
theorem ysOf_at {l : List Int} {r : List Nat} {j : Nat} (h : j < r.length) : (ysOf l r).getD j 0 = yOf l r j := by
  unfold ysOf yOf
  rw [List.getD_eq_getElem?_getD, List.getElem?_map, List.getElem?_eq_getElem h, ge_at r h]; rfl
theorem idx_rank {l : List Int} {n : Nat} {r : List Nat} {vals rs : List Int} {wss : List (List Nat)} {cc : Int} (h : IdxR l n r vals rs wss cc) {j : Nat} (hj : j < n) : ∃ k : Nat, rs.getD j 0 = k ∧ k < vals.length ∧ vals.getD k 0 = yOf l r j := by
  obtain ⟨hO, ⟨hV, hl, hR⟩, _⟩ := h
  have hlen := hO.len
  have hy : (ysOf l r).length = n := by unfold ysOf; rw [List.length_map, hlen]
  obtain ⟨k, e, hk⟩ := hR j (by omega)
  have hmem : (ysOf l r).getD j 0 ∈ vals := (hV.2 _).2 (getD_in _ (by omega))
  obtain ⟨h1, h2⟩ := hV.at_rank hmem
  have := rankOf_less hV.asc _ k hk
  rw [this] at h1 h2
  exact ⟨k, e, h1, by rw [h2, ysOf_at (by omega)]⟩
theorem idx_vals {l : List Int} {n : Nat} {r : List Nat} {vals rs : List Int} {wss : List (List Nat)} {cc : Int} (h : IdxR l n r vals rs wss cc) : vals.length ≤ n := by
  have := h.2.1.1.len
  unfold ysOf at this
  rw [List.length_map, h.1.len] at this
  exact this
theorem idx_rs {l : List Int} {n : Nat} {r : List Nat} {vals rs : List Int} {wss : List (List Nat)} {cc : Int} (h : IdxR l n r vals rs wss cc) : rs.length = n := by
  have := h.2.1.2.1
  unfold ysOf at this
  rw [List.length_map, h.1.len] at this
  exact this
theorem idx_ok {l : List Int} {n : Nat} {r : List Nat} {vals rs : List Int} {wss : List (List Nat)} {cc : Int} (h : IdxR l n r vals rs wss cc) (hn : n ≤ 150) : ∀ j, j < rs.length → okZ 8 (rs.getD j 0) := fun j hj => by
  rw [idx_rs h] at hj
  obtain ⟨k, e, h1, _⟩ := idx_rank h hj
  have := idx_vals h
  rw [e]
  exact ⟨by omega, by have : (2 : Int) ^ 8 = 256 := by decide
                      omega⟩
theorem idx_made {l : List Int} {n : Nat} {r : List Nat} {vals rs : List Int} {wss : List (List Nat)} {cc : Int} (h : IdxR l n r vals rs wss cc) (hn : n ≤ 150) : (wss.map fun ws => ((n : Int), ws)) = madeRows 8 rs := by
  have hl := idx_rs h
  have hok := idx_ok h hn
  rcases h.2.2 with ⟨h1, _⟩ | ⟨_, h1, _⟩ | ⟨_, _, _, ⟨j, hj, h1⟩, _⟩ | ⟨_, _, _, _, h1, _⟩
  · omega
  · omega
  · exact absurd (hok j hj) h1
  · rw [h1]; unfold madeRows; rw [hl]; rfl
theorem vals_mono {l vs : List Int} (h : ValsR l vs) {y : Int} {a : Bool} {i j : Nat} (hij : i ≤ j) (hj : j < vs.length) (hi : isAb (vs.getD i 0) y a = true) : isAb (vs.getD j 0) y a = true := isAb_mono (h.asc i j hij hj) hi
theorem idx_below {l : List Int} {n a b K : Nat} {r : List Nat} {vals rs : List Int} {wss : List (List Nat)} {cc y : Int} {at_ : Bool} (h : IdxR l n r vals rs wss cc) (hn : n ≤ 150) (hab : a ≤ b) (hb : b ≤ n) (hK : BoundOf (fun i => isAb (vals.getD i 0) y at_) vals.length K) :
    (sW (wss.map fun ws => ((n : Int), ws)) n a b).countP (fun z => decide (z < (K : Int))) = belowN l r n a b y at_ := by
  have hl := idx_rs h
  rw [idx_made h hn]
  have := made_below (idx_ok h hn) hab (by omega : b ≤ rs.length) (K : Int)
  rw [hl] at this
  rw [this]
  unfold belowN
  refine countN_congr fun j hj => ?_
  congr 1
  obtain ⟨k, e, h1, h2⟩ := idx_rank h hj
  rw [e, ← h2]
  by_cases hk : k < K
  · have := hK.2.1 k hk
    simp only at this
    rw [this, decide_eq_true (by omega)]; rfl
  · have := hK.2.2 k (by omega) h1
    simp only at this
    rw [this, decide_eq_false (by omega)]; rfl
/-- The places of a segment of the order. -/
theorem seg_count (r : List Nat) (p : Nat → Bool) : ∀ n, n ≤ r.length → ∀ a b, a ≤ b → b ≤ n → countN (fun j => decide (a ≤ j ∧ j < b) && p (r.getD j 0)) n = ((r.drop a).take (b - a)).countP p
  | 0, _, a, b, hab, hb => by
    obtain rfl : b = 0 := by omega
    obtain rfl : a = 0 := by omega
    rw [countN_0]; simp
  | n + 1, hn, a, b, hab, hb => by
    rw [countN_succ]
    by_cases hbn : b ≤ n
    · rw [seg_count r p n (by omega) a b hab hbn, decide_eq_false (by omega)]; simp
    · obtain rfl : b = n + 1 := by omega
      by_cases han : a ≤ n
      · have e : countN (fun j => decide (a ≤ j ∧ j < n + 1) && p (r.getD j 0)) n = countN (fun j => decide (a ≤ j ∧ j < n) && p (r.getD j 0)) n := countN_congr fun j hj => by
          congr 1
          by_cases h : a ≤ j <;> simp [h] <;> omega
        rw [e, seg_count r p n (by omega) a n han (Nat.le_refl _)]
        have e2 : n + 1 - a = (n - a) + 1 := by omega
        rw [e2, List.take_add_one, List.countP_append, List.getElem?_drop, show a + (n - a) = n by omega, List.getElem?_eq_getElem (by omega), ge_at r (by omega : n < r.length), decide_eq_true ⟨han, by omega⟩]
        simp [List.countP_cons]
      · obtain rfl : a = n + 1 := by omega
        rw [decide_eq_false (by omega)]
        have e : countN (fun j => decide (n + 1 ≤ j ∧ j < n + 1) && p (r.getD j 0)) n = 0 := countN_none fun j hj => by rw [decide_eq_false (by omega)]; rfl
        rw [e]; simp
theorem countP_sub {α : Type} {p q s : α → Bool} : ∀ r : List α, (∀ i ∈ r, (p i = true ↔ (q i = true ∨ s i = true)) ∧ ¬ (q i = true ∧ s i = true)) → r.countP p = r.countP q + r.countP s
  | [], _ => rfl
  | x :: r, h => by
    have ih := countP_sub r fun i hi => h i (List.mem_cons_of_mem _ hi)
    have hx := h x (List.mem_cons_self)
    rw [List.countP_cons, List.countP_cons, List.countP_cons, ih]
    cases hp : p x <;> cases hq : q x <;> cases hs : s x <;> simp_all <;> omega
/-- The Y of a place. -/
def yPl (l : List Int) (i : Nat) : Int := l.getD (i * 3 + 1) 0
theorem belowN_seg {l : List Int} {r : List Nat} {n a b : Nat} (hr : r.length = n) (hab : a ≤ b) (hb : b ≤ n) (y : Int) (at_ : Bool) : belowN l r n a b y at_ = ((r.drop a).take (b - a)).countP fun i => !isAb (yPl l i) y at_ := by
  have := seg_count r (fun i => !isAb (yPl l i) y at_) n (by omega) a b hab hb
  rw [← this]; rfl
/-- Of the columns a place is in the rectangle by its Y alone. -/
theorem cols_in {l : List Int} {n a b : Nat} {r : List Nat} {x0 y0 x1 y1 : Int} (hr : r.length = n) (h : ColsAt l r n x0 x1 a b) {i : Nat} (hi : i ∈ (r.drop a).take (b - a)) : inP l x0 y0 x1 y1 i = (decide (y0 ≤ yPl l i) && decide (yPl l i ≤ y1)) := by
  obtain ⟨b', rfl, ⟨ha, ha1, ha2⟩, hb, hb1, hb2⟩ := h
  obtain ⟨u, hu, rfl⟩ := List.mem_iff_getElem.1 hi
  rw [List.length_take, List.length_drop] at hu
  rw [List.getElem_take, List.getElem_drop]
  have h1 : isAb (xOf l r (a + u)) x0 false = true := ha2 (a + u) (by omega) (by omega)
  have h2 : isAb (xOf l r (a + u)) x1 true = false := hb1 (a + u) (by omega)
  unfold isAb xOf at h1 h2
  rw [ge_at r (by omega)] at h1 h2
  unfold inP inR yPl
  simp at h1 h2
  have g1 : x0 ≤ l.getD (r[a + u] * 3) 0 := by rcases h1 with h1 | h1 <;> simp <;> omega
  have g2 : l.getD (r[a + u] * 3) 0 ≤ x1 := by simp; omega
  rw [decide_eq_true g1, decide_eq_true g2]
  simp
theorem cols_le {l : List Int} {n a b : Nat} {r : List Nat} {x0 x1 : Int} (h : ColsAt l r n x0 x1 a b) : a ≤ b ∧ b ≤ n := by obtain ⟨b', rfl, ⟨h1, _⟩, h2, _⟩ := h; omega
/-- How many places lie in a rectangle. -/
def cntIn (l : List Int) (n : Nat) (x0 y0 x1 y1 : Int) : Nat := ((List.range n).filter (inP l x0 y0 x1 y1)).length
theorem cols_cnt {l : List Int} {n a b : Nat} {r : List Nat} {x0 y0 x1 y1 : Int} (hO : OrdXY l n r) (h : ColsAt l r n x0 x1 a b) : ((r.drop a).take (b - a)).countP (inP l x0 y0 x1 y1) = cntIn l n x0 y0 x1 y1 := by
  unfold cntIn
  rw [List.countP_eq_length_filter, cols_filter hO.len h]
  exact (hO.1.filter _).length_eq
theorem not_ab_at (x y : Int) : (!isAb x y true) = decide (x ≤ y) := by unfold isAb; by_cases h : x ≤ y <;> simp [h] <;> omega
theorem not_ab_no (x y : Int) : (!isAb x y false) = decide (x < y) := by
  unfold isAb
  by_cases h : x < y
  · have : ¬ y < x := by omega
    have : ¬ x = y := by omega
    simp [*]
  · by_cases h2 : x = y
    · simp [h2]
    · have : y < x := by omega
      simp [h, this]
theorem count_eq {l : List Int} {n a b : Nat} {r : List Nat} {x0 y0 x1 y1 : Int} (hO : OrdXY l n r) (h : ColsAt l r n x0 x1 a b) :
    max 0 ((belowN l r n a b y1 true : Int) - (belowN l r n a b y0 false : Int)) = (cntIn l n x0 y0 x1 y1 : Int) := by
  obtain ⟨hab, hb⟩ := cols_le h
  rw [belowN_seg hO.len hab hb, belowN_seg hO.len hab hb, ← cols_cnt hO h]
  have hin : ((r.drop a).take (b - a)).countP (inP l x0 y0 x1 y1) = ((r.drop a).take (b - a)).countP fun i => decide (y0 ≤ yPl l i) && decide (yPl l i ≤ y1) := List.countP_congr fun i hi => by rw [cols_in hO.len h hi]
  rw [hin]
  by_cases hy : y0 ≤ y1
  · have := countP_sub (p := fun i => !isAb (yPl l i) y1 true) (q := fun i => !isAb (yPl l i) y0 false) (s := fun i => decide (y0 ≤ yPl l i) && decide (yPl l i ≤ y1)) ((r.drop a).take (b - a)) fun i _ => by
      simp only [not_ab_at, not_ab_no, Bool.and_eq_true, decide_eq_true_eq]; omega
    omega
  · have h0 : ((r.drop a).take (b - a)).countP (fun i => decide (y0 ≤ yPl l i) && decide (yPl l i ≤ y1)) = 0 := by
      rw [List.countP_eq_zero]; intro i _; simp; omega
    have hle : ((r.drop a).take (b - a)).countP (fun i => !isAb (yPl l i) y1 true) ≤ ((r.drop a).take (b - a)).countP (fun i => !isAb (yPl l i) y0 false) := List.countP_mono_left fun i _ hi => by
      simp only [not_ab_at, not_ab_no, decide_eq_true_eq] at hi ⊢; omega
    omega
attribute [irreducible] belowN cntIn
end Go.Dam

/-
  Contract of wave.kth. Conditions: the wave may be, the range lies within it, and the range has a kth number.
-/
namespace Go.Proofs.Ythbopbbpogddlaa
open Go Go.RowKit Go.Dam
set_option linter.unusedVariables false
end Go.Proofs.Ythbopbbpogddlaa
