/-
  Plain laws of pairs that stand the other way round: over two halves, and while sorted halves are merged. Conditions: none; no program in sight.
-/
import Derived.Test.YtjnndbllaplkcaaPermLaws
namespace Go.Dam
set_option linter.unusedVariables false
/-- How many of l are less than x. -/
def lessC (x : Int) (l : List Int) : Nat := (l.filter fun y => decide (y < x)).length
theorem lessC_nil (x : Int) : lessC x [] = 0 := rfl
theorem lessC_cons (x y : Int) (l : List Int) : lessC x (y :: l) = (if y < x then 1 else 0) + lessC x l := by
  unfold lessC; rw [List.filter_cons]; by_cases h : y < x <;> simp [h]; omega
theorem lessC_append (x : Int) (a b : List Int) : lessC x (a ++ b) = lessC x a + lessC x b := by unfold lessC; rw [List.filter_append, List.length_append]
theorem lessC_perm {x : Int} {a b : List Int} (h : a.Perm b) : lessC x a = lessC x b := (h.filter _).length_eq
theorem lessC_le (x : Int) (l : List Int) : lessC x l ≤ l.length := List.length_filter_le _ _
/-- The pairs that stand the other way round. -/
def invC : List Int → Nat
  | [] => 0
  | x :: l => lessC x l + invC l
theorem invC_cons (x : Int) (l : List Int) : invC (x :: l) = lessC x l + invC l := rfl
/-- The pairs of one of a and a lesser one of b. -/
def crossC (a b : List Int) : Nat := (a.map fun x => lessC x b).sum
theorem crossC_nil (b : List Int) : crossC [] b = 0 := rfl
theorem crossC_cons (x : Int) (a b : List Int) : crossC (x :: a) b = lessC x b + crossC a b := by simp [crossC]
theorem crossC_right_nil (a : List Int) : crossC a [] = 0 := by
  induction a with
  | nil => rfl
  | cons x a ih => rw [crossC_cons, lessC_nil, ih]
theorem invC_append (a b : List Int) : invC (a ++ b) = invC a + invC b + crossC a b := by
  induction a with
  | nil => simp [invC, crossC_nil]
  | cons x a ih => rw [List.cons_append, invC_cons, invC_cons, crossC_cons, ih, lessC_append]; omega
theorem crossC_perm {a a' b b' : List Int} (h : a.Perm a') (g : b.Perm b') : crossC a b = crossC a' b' := by
  unfold crossC
  have e : (fun x => lessC x b) = fun x => lessC x b' := funext fun x => lessC_perm g
  rw [e]
  exact (h.map _).sum_nat
theorem invC_le : ∀ l : List Int, invC l ≤ l.length * l.length
  | [] => Nat.le_refl _
  | x :: l => by
    have h1 := invC_le l
    have h2 := lessC_le x l
    rw [invC_cons, List.length_cons, Nat.add_mul, Nat.mul_add]; omega
theorem crossC_le (b : List Int) : ∀ a : List Int, crossC a b ≤ a.length * b.length
  | [] => by simp [crossC_nil]
  | x :: a => by
    have h1 := crossC_le b a
    have h2 := lessC_le x b
    rw [crossC_cons, List.length_cons, Nat.add_mul]; omega
/-- The least of b is less than all of a: that many pairs more. -/
theorem crossC_b {y : Int} {b : List Int} : ∀ {a : List Int}, (∀ x ∈ a, y < x) → crossC a (y :: b) = a.length + crossC a b
  | [], _ => rfl
  | x :: a, h => by
    rw [crossC_cons, crossC_cons, lessC_cons, if_pos (h x (by simp)), crossC_b fun z hz => h z (List.mem_cons_of_mem _ hz), List.length_cons]; omega
theorem crossC_a {x : Int} {a b : List Int} (h : ∀ y ∈ b, x ≤ y) : crossC (x :: a) b = crossC a b := by
  have e : lessC x b = 0 := by
    unfold lessC
    rw [List.filter_eq_nil_iff.2 fun y hy => by have := h y hy; simp; omega]; rfl
  rw [crossC_cons, e]; omega
/-- Merging: what has come (o), what is left of each half, and the pairs counted. -/
structure Merging (A B o a b : List Int) (s : Nat) : Prop where
  perm : (o ++ (a ++ b)).Perm (A ++ B)
  so : o.Pairwise fun x y => x ≤ y
  sa : a.Pairwise fun x y => x ≤ y
  sb : b.Pairwise fun x y => x ≤ y
  ge : ∀ x ∈ o, ∀ y ∈ a ++ b, x ≤ y
  cnt : s + crossC a b = crossC A B
theorem Merging.start {A B : List Int} (hA : A.Pairwise fun x y => x ≤ y) (hB : B.Pairwise fun x y => x ≤ y) : Merging A B [] A B 0 :=
  ⟨List.Perm.refl _, List.Pairwise.nil, hA, hB, (fun x hx => by cases hx), (by omega)⟩
theorem snoc_sorted {o : List Int} {x : Int} (h : o.Pairwise fun x y => x ≤ y) (g : ∀ z ∈ o, z ≤ x) : (o ++ [x]).Pairwise fun x y => x ≤ y := by
  rw [List.pairwise_append]
  exact ⟨h, by simp, fun a ha b hb => by simp at hb; subst hb; exact g a ha⟩
theorem Merging.left {A B o a b : List Int} {x y : Int} {s : Nat} (h : Merging A B o (x :: a) (y :: b) s) (hxy : x ≤ y) : Merging A B (o ++ [x]) a (y :: b) s := by
  have ha := List.pairwise_cons.1 h.sa
  have hb := List.pairwise_cons.1 h.sb
  refine ⟨(by simpa using h.perm), snoc_sorted h.so (fun z hz => h.ge z hz x (by simp)), ha.2, h.sb, (fun z hz u hu => ?_), ?_⟩
  · rcases List.mem_append.1 hz with h1 | h1
    · exact h.ge z h1 u (by rw [List.cons_append]; exact List.mem_cons_of_mem _ hu)
    · simp at h1; subst h1
      rcases List.mem_append.1 hu with h2 | h2
      · exact ha.1 u h2
      · rcases List.mem_cons.1 h2 with h3 | h3
        · omega
        · have := hb.1 u h3; omega
  · have := h.cnt
    rw [crossC_a fun u hu => by
      rcases List.mem_cons.1 hu with h3 | h3
      · omega
      · have := hb.1 u h3; omega] at this
    exact this
theorem Merging.right {A B o a b : List Int} {x y : Int} {s : Nat} (h : Merging A B o (x :: a) (y :: b) s) (hxy : ¬ x ≤ y) : Merging A B (o ++ [y]) (x :: a) b (s + (a.length + 1)) := by
  have ha := List.pairwise_cons.1 h.sa
  have hb := List.pairwise_cons.1 h.sb
  refine ⟨?_, snoc_sorted h.so fun z hz => h.ge z hz y (by simp), h.sa, hb.2, fun z hz u hu => ?_, ?_⟩
  · refine List.Perm.trans ?_ h.perm
    rw [List.append_assoc]
    refine List.Perm.append_left o ?_
    exact (List.perm_middle (l₁ := x :: a) (a := y) (l₂ := b)).symm
  · rcases List.mem_append.1 hz with h1 | h1
    · refine h.ge z h1 u ?_
      rcases List.mem_append.1 hu with h2 | h2
      · exact List.mem_append_left _ h2
      · exact List.mem_append_right _ (List.mem_cons_of_mem _ h2)
    · simp at h1; subst h1
      rcases List.mem_append.1 hu with h2 | h2
      · rcases List.mem_cons.1 h2 with h3 | h3
        · omega
        · have := ha.1 u h3; omega
      · exact hb.1 u h2
  · have := h.cnt
    rw [crossC_b fun u hu => by
      rcases List.mem_cons.1 hu with h3 | h3
      · omega
      · have := ha.1 u h3; omega, List.length_cons] at this
    omega
theorem Merging.bound {A B o a b : List Int} {s : Nat} (h : Merging A B o a b s) : s ≤ A.length * B.length := by
  have := h.cnt
  have := crossC_le B A
  omega
theorem Merging.len {A B o a b : List Int} {s : Nat} (h : Merging A B o a b s) : o.length + a.length + b.length = A.length + B.length := by
  have := h.perm.length_eq
  simp at this; omega
theorem Merging.ends {A B o a b : List Int} {s : Nat} (h : Merging A B o a b s) (he : a = [] ∨ b = []) : (o ++ a ++ b).Pairwise (fun x y => x ≤ y) ∧ (o ++ a ++ b).Perm (A ++ B) ∧ s = crossC A B := by
  refine ⟨?_, by rw [List.append_assoc]; exact h.perm, ?_⟩
  · rcases he with rfl | rfl
    · rw [List.append_nil, List.pairwise_append]
      exact ⟨h.so, h.sb, fun x hx y hy => h.ge x hx y (by simpa using hy)⟩
    · rw [List.append_nil, List.pairwise_append]
      exact ⟨h.so, h.sa, fun x hx y hy => h.ge x hx y (by simpa using hy)⟩
  · have := h.cnt
    rcases he with rfl | rfl
    · rw [crossC_nil] at this; omega
    · rw [crossC_right_nil] at this; omega
/-- The whole: two halves sorted and merged. -/
theorem merged {l : List Int} {h : Nat} {o a b : List Int} {s : Nat} (hM : Merging (sortI (l.take h)) (sortI (l.drop h)) o a b s) (he : a = [] ∨ b = []) :
    o ++ a ++ b = sortI l ∧ invC (l.take h) + invC (l.drop h) + s = invC l := by
  obtain ⟨h1, h2, h3⟩ := hM.ends he
  refine ⟨?_, ?_⟩
  · refine (sortI_unique ?_ h1).symm
    refine List.Perm.trans ?_ h2.symm
    conv => lhs; rw [← List.take_append_drop h l]
    exact ((sortI_perm _).append (sortI_perm _)).symm
  · rw [h3, crossC_perm (sortI_perm _) (sortI_perm _), ← invC_append, List.take_append_drop]
theorem short_sorted {l : List Int} (h : l.length < 2) : sortI l = l ∧ invC l = 0 := by
  rcases l with _ | ⟨x, _ | ⟨y, l⟩⟩
  · exact ⟨sortI_unique (List.Perm.refl _) List.Pairwise.nil, rfl⟩
  · exact ⟨sortI_unique (List.Perm.refl _) (by simp), rfl⟩
  · simp at h; omega
/-- What the reference counts: at the first i places all pairs, at the next one the first k. -/
def pairsTo (l : List Int) : Nat → Nat
  | 0 => 0
  | i + 1 => pairsTo l i + lessC (l.getD i 0) (l.drop (i + 1))
theorem pairsTo_0 (l : List Int) : pairsTo l 0 = 0 := rfl
theorem pairsTo_succ (l : List Int) (i : Nat) : pairsTo l (i + 1) = pairsTo l i + lessC (l.getD i 0) (l.drop (i + 1)) := rfl
theorem pairsTo_inv {l : List Int} : ∀ {i : Nat}, i ≤ l.length → pairsTo l i + invC (l.drop i) = invC l
  | 0, _ => by rw [pairsTo_0]; simp
  | i + 1, h => by
    have ih := pairsTo_inv (l := l) (i := i) (by omega)
    rw [List.drop_eq_getElem_cons (by omega), invC_cons] at ih
    have e : l.getD i 0 = l[i] := by simp [show i < l.length by omega]
    rw [pairsTo_succ, e]; omega
theorem pairsTo_end (l : List Int) : pairsTo l l.length = invC l := by
  have := pairsTo_inv (l := l) (i := l.length) (Nat.le_refl _)
  rw [List.drop_length] at this
  simpa [invC] using this
/-- .. at place i the first k behind it. -/
def pairsAt (l : List Int) (i k : Nat) : Nat := lessC (l.getD i 0) ((l.drop (i + 1)).take k)
theorem pairsAt_0 (l : List Int) (i : Nat) : pairsAt l i 0 = 0 := by simp [pairsAt, lessC]
theorem pairsAt_yes {l : List Int} {i k : Nat} (hk : i + 1 + k < l.length) (h : l.getD (i + 1 + k) 0 < l.getD i 0) : pairsAt l i (k + 1) = pairsAt l i k + 1 := by
  have e : l.getD (i + 1 + k) 0 = l[i + 1 + k] := by simp [hk]
  unfold pairsAt
  rw [List.take_add_one, lessC_append, List.getElem?_drop, List.getElem?_eq_getElem hk, Option.toList_some, lessC_cons, lessC_nil]
  rw [e] at h; rw [if_pos h]
theorem pairsAt_no {l : List Int} {i k : Nat} (hk : i + 1 + k < l.length) (h : ¬ l.getD (i + 1 + k) 0 < l.getD i 0) : pairsAt l i (k + 1) = pairsAt l i k := by
  have e : l.getD (i + 1 + k) 0 = l[i + 1 + k] := by simp [hk]
  unfold pairsAt
  rw [List.take_add_one, lessC_append, List.getElem?_drop, List.getElem?_eq_getElem hk, Option.toList_some, lessC_cons, lessC_nil]
  rw [e] at h; rw [if_neg h]; omega
theorem pairsAt_end {l : List Int} {i : Nat} : pairsTo l i + pairsAt l i (l.length - (i + 1)) = pairsTo l (i + 1) := by
  unfold pairsAt
  rw [List.take_of_length_le (by simp), pairsTo_succ]
theorem pairsTo_le {l : List Int} {i : Nat} (h : i ≤ l.length) : pairsTo l i ≤ l.length * l.length := by
  have := pairsTo_inv h
  have := invC_le l
  omega
theorem pairsAt_le (l : List Int) (i k : Nat) : pairsAt l i k ≤ l.length := by
  unfold pairsAt
  refine Nat.le_trans (lessC_le _ _) ?_
  rw [List.length_take, List.length_drop]; omega
attribute [irreducible] lessC invC crossC pairsTo pairsAt
end Go.Dam
