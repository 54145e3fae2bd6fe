/-
  Plain laws of orders: when a list holds each number below its length once; a test place by place, and a test of the sorted list. Conditions: none; no program in sight.
-/
import Derived.Test.YthiccmncdmohbaaMHullInsides10
set_option linter.unusedVariables false
set_option linter.unusedSimpArgs false
namespace Go.Dam
set_option linter.unusedVariables false
/-- The list holds the order p. -/
def IsOrder (l : List Int) (p : List Nat) : Prop := l = toInts p ∧ p.Nodup ∧ ∀ k ∈ p, k < p.length
/-- What is wrong with a list as an order. -/
def PermF (l : List Int) (c : Int) : Prop := (300 < l.length ∧ c = 1) ∨ (l.length ≤ 300 ∧ (∃ p, IsOrder l p) ∧ c = 0) ∨ (l.length ≤ 300 ∧ (¬ ∃ p, IsOrder l p) ∧ c = 4)
theorem PermF.ex (l : List Int) : ∃ c, PermF l c := by
  by_cases h : 300 < l.length
  · exact ⟨1, .inl ⟨h, rfl⟩⟩
  · by_cases h2 : ∃ p, IsOrder l p
    · exact ⟨0, .inr (.inl ⟨by omega, h2, rfl⟩)⟩
    · exact ⟨4, .inr (.inr ⟨by omega, h2, rfl⟩)⟩
theorem toInts_eq (p : List Nat) : toInts p = p.map (fun k : Nat => (k : Int)) := by unfold toInts; rfl
theorem toInts_inj {p q : List Nat} (h : toInts p = toInts q) : p = q := by
  rw [toInts_eq, toInts_eq] at h
  exact (List.map_inj_right fun a b e => Int.ofNat.inj e).1 h
theorem toInts_take (p : List Nat) (i : Nat) : (toInts p).take i = toInts (p.take i) := by rw [toInts_eq, toInts_eq, List.map_take]
theorem order_len {l : List Int} {p : List Nat} (h : IsOrder l p) : p.length = l.length := by rw [h.1, toInts_length]
theorem IsOrder.unique {l : List Int} {p q : List Nat} (h : IsOrder l p) (g : IsOrder l q) : p = q := toInts_inj (h.1.symm.trans g.1)
theorem nodup_at {p : List Nat} (h : p.Nodup) {i : Nat} (hi : i < p.length) : p[i] ∉ p.take i := by
  intro hm
  obtain ⟨j, hj, e⟩ := List.mem_iff_getElem.1 hm
  rw [List.length_take] at hj
  rw [List.getElem_take] at e
  have := (List.pairwise_iff_getElem.1 h) j i (by omega) hi (by omega)
  exact this e
/-- The part that has been looked at is fine. -/
def Half (l : List Int) (i : Nat) (p : List Nat) : Prop := l.take i = toInts p ∧ p.Nodup ∧ ∀ k ∈ p, k < l.length
theorem Half.zero (l : List Int) : Half l 0 [] := ⟨by rw [toInts_eq]; simp, List.nodup_nil, fun k h => by cases h⟩
theorem Half.len {l : List Int} {i : Nat} {p : List Nat} (h : Half l i p) (hi : i ≤ l.length) : p.length = i := by
  have := congrArg List.length h.1
  rw [toInts_length, List.length_take] at this; omega
theorem Half.step {l : List Int} {i k : Nat} {p : List Nat} (h : Half l i p) (hi : i < l.length) (hz : l.getD i 0 = (k : Int)) (hk : k < l.length) (hn : k ∉ p) : Half l (i + 1) (p ++ [k]) := by
  refine ⟨?_, ?_, fun x hx => ?_⟩
  · rw [List.take_add_one, h.1, toInts_snoc]
    congr 1
    rw [List.getD_eq_getElem?_getD, List.getElem?_eq_getElem hi, Option.getD_some] at hz
    rw [List.getElem?_eq_getElem hi, hz]; rfl
  · rw [List.nodup_append]
    exact ⟨h.2.1, by simp, fun a ha b hb e => by simp at hb; subst hb; subst e; exact hn ha⟩
  · rcases List.mem_append.1 hx with h1 | h1
    · exact h.2.2 x h1
    · simp at h1; omega
theorem Half.whole {l : List Int} {p : List Nat} (h : Half l l.length p) : IsOrder l p := by
  have hl := h.len (Nat.le_refl _)
  refine ⟨by rw [← h.1, List.take_length], h.2.1, fun k hk => by rw [hl]; exact h.2.2 k hk⟩
theorem Half.no {l : List Int} {i : Nat} {p : List Nat} (h : Half l i p) (hi : i < l.length) (hz : l.getD i 0 < 0 ∨ (l.length : Int) ≤ l.getD i 0 ∨ (l.getD i 0).toNat ∈ p) : ¬ ∃ q, IsOrder l q := by
  rintro ⟨q, hq⟩
  have hl := order_len hq
  have hqi : i < q.length := by omega
  have e1 : p = q.take i := by
    apply toInts_inj
    rw [← h.1, hq.1, toInts_take]
  have e2 : l.getD i 0 = ((q[i] : Nat) : Int) := by
    rw [hq.1, toInts_at hqi]; simp [hqi]
  have hm : q[i] ∈ q := List.getElem_mem hqi
  have h3 := hq.2.2 _ hm
  rw [e2] at hz
  rcases hz with h1 | h1 | h1
  · omega
  · omega
  · rw [Int.toNat_natCast, e1] at h1
    exact nodup_at hq.2.1 hqi h1
theorem nodup_le : ∀ (n : Nat) (p : List Nat), p.Nodup → (∀ k ∈ p, k < n) → p.length ≤ n ∧ (p.length = n → p.Perm (List.range n))
  | 0, p, _, h => by
    cases p with
    | nil => simp
    | cons a p => exact absurd (h a (by simp)) (by omega)
  | n + 1, p, hd, h => by
    by_cases hm : n ∈ p
    · have h1 := nodup_le n (p.erase n) (hd.erase n) fun k hk => by
        have h2 := (hd.mem_erase_iff).1 hk
        have := h k h2.2
        have h4 := h2.1
        omega
      have h2 := List.length_erase_of_mem hm
      have h3 : 0 < p.length := List.length_pos_of_mem hm
      refine ⟨by omega, fun e => ?_⟩
      have h4 := h1.2 (by omega)
      have h5 := List.perm_cons_erase hm
      rw [List.range_succ]
      exact h5.trans ((h4.cons n).trans (List.perm_append_singleton n _).symm)
    · have h1 := nodup_le n p hd fun k hk => by
        have := h k hk
        have : k ≠ n := fun e => hm (e ▸ hk)
        omega
      exact ⟨by omega, fun e => by omega⟩
theorem IsOrder.perm {l : List Int} {p : List Nat} (h : IsOrder l p) : p.Perm (List.range p.length) := (nodup_le p.length p h.2.1 h.2.2).2 rfl
/-- Sorted as Go sorts. -/
def sortI (l : List Int) : List Int := l.mergeSort fun x y => decide (x ≤ y)
theorem sortI_eq (l : List Int) : (l.mergeSort fun x y => decide (x ≤ y)) = sortI l := rfl
theorem sortI_perm (l : List Int) : (sortI l).Perm l := List.mergeSort_perm l _
theorem sortI_len (l : List Int) : (sortI l).length = l.length := (sortI_perm l).length_eq
theorem sortI_sorted (l : List Int) : (sortI l).Pairwise fun a b => a ≤ b := by
  have := List.pairwise_mergeSort (le := fun x y : Int => decide (x ≤ y)) (fun a b c h1 h2 => by simp at *; omega) (fun a b => by simp; omega) l
  exact this.imp fun h => by simpa using h
theorem sortI_unique {l m : List Int} (h : l.Perm m) (hs : m.Pairwise fun a b => a ≤ b) : sortI l = m :=
  ((sortI_perm l).trans h).eq_of_pairwise (fun a b _ _ h1 h2 => Int.le_antisymm h1 h2) (sortI_sorted l) hs
theorem range_asc (n : Nat) : (toInts (List.range n)).Pairwise fun a b => a ≤ b := by
  rw [toInts_eq, List.pairwise_map]
  exact List.pairwise_lt_range.imp fun h => by omega
theorem order_sorted {l : List Int} {p : List Nat} (h : IsOrder l p) : sortI l = toInts (List.range l.length) := by
  apply sortI_unique _ (range_asc _)
  have h1 := h.perm
  have hl := order_len h
  rw [hl] at h1
  have h2 := h1.map (fun k : Nat => (k : Int))
  rw [← toInts_eq, ← toInts_eq, ← h.1] at h2
  exact h2
theorem sorted_order {l : List Int} (h : ∀ j, j < l.length → (sortI l).getD j 0 = (j : Int)) : ∃ p, IsOrder l p := by
  have hs : sortI l = toInts (List.range l.length) := by
    apply List.ext_getElem
    · rw [sortI_len, toInts_length, List.length_range]
    · intro j h1 h2
      have h3 := h j (by rw [← sortI_len]; exact h1)
      have h4 := toInts_at (p := List.range l.length) (i := j) (by rw [toInts_length] at h2; exact h2)
      rw [List.getD_eq_getElem?_getD, List.getElem?_eq_getElem h1] at h3
      rw [List.getD_eq_getElem?_getD, List.getElem?_eq_getElem h2] at h4
      simp only [Option.getD_some] at h3 h4
      rw [h3, h4]
      rw [toInts_length, List.length_range] at h2
      simp [h2]
  have hp : (toInts (List.range l.length)).Perm l := hs ▸ sortI_perm l
  have hmem : ∀ z ∈ l, ∃ k : Nat, k < l.length ∧ z = (k : Int) := fun z hz => by
    have := hp.mem_iff.2 hz
    rw [toInts_eq] at this
    obtain ⟨k, hk, rfl⟩ := List.mem_map.1 this
    exact ⟨k, List.mem_range.1 hk, rfl⟩
  have hl : l = toInts (l.map Int.toNat) := by
    rw [toInts_eq, List.map_map]
    conv => lhs; rw [← List.map_id l]
    apply List.map_congr_left
    intro z hz
    obtain ⟨k, _, rfl⟩ := hmem z hz
    simp
  refine ⟨l.map Int.toNat, hl, ?_, fun k hk => ?_⟩
  · have h1 : (toInts (List.range l.length)).Nodup := by
      rw [toInts_eq]
      exact (List.pairwise_map).2 (List.nodup_range.imp fun h e => h (Int.ofNat.inj e))
    have h2 : l.Nodup := hp.nodup_iff.1 h1
    rw [hl, toInts_eq] at h2
    exact ((List.pairwise_map).1 h2).imp fun h e => h (by rw [e])
  · obtain ⟨z, hz, rfl⟩ := List.mem_map.1 hk
    obtain ⟨k2, hk2, rfl⟩ := hmem z hz
    rw [List.length_map, Int.toNat_natCast]; exact hk2
theorem not_order {l : List Int} {j : Nat} (hj : j < l.length) (h : (sortI l).getD j 0 ≠ (j : Int)) : ¬ ∃ p, IsOrder l p := by
  rintro ⟨p, hp⟩
  apply h
  rw [order_sorted hp, toInts_at (by rw [List.length_range]; exact hj)]
  simp [hj]
attribute [irreducible] sortI
end Go.Dam
