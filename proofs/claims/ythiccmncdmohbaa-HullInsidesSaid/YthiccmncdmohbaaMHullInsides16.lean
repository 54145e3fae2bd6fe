/-
  Plain: places sorted by first coordinate, second coordinate and place, and of each position the first one: what the chain is made over. No program in sight. Conditions: coordinates whose second is within 2^20 either way.
-/
import Derived.Test.YthiccmncdmohbaaMHullInsides00
import Derived.Test.YthiccmncdmohbaaMHullInsides15
set_option linter.unusedVariables false
set_option linter.unusedSimpArgs false
namespace Go.Dam.Hull
set_option linter.unusedVariables false
/-- All places, by first coordinate, second coordinate and place. -/
def SrtH (F : Nat → Pt) (n : Nat) (r : List Nat) : Prop := r.Perm (List.range n) ∧ ∀ u v, u < v → v < n → ¬ (lx (F (r.getD v 0)) (F (r.getD u 0)) ∨ (F (r.getD v 0) = F (r.getD u 0) ∧ r.getD v 0 < r.getD u 0))
/-- Does a place of the order stay? -/
def keepsH (F : Nat → Pt) (r : List Nat) (j : Nat) : Bool := decide (j = 0) || !decide (F (r.getD j 0) = F (r.getD (j - 1) 0))
def compH (F : Nat → Pt) (r : List Nat) : Nat → List Nat
  | 0 => []
  | m + 1 => if keepsH F r m = true then compH F r m ++ [r.getD m 0] else compH F r m
theorem compH_len (F : Nat → Pt) (r : List Nat) : ∀ m, (compH F r m).length ≤ m
  | 0 => Nat.le_refl _
  | m + 1 => by
    have := compH_len F r m
    rw [compH]
    split
    · simp; omega
    · omega
set_option linter.unusedSectionVars false
section
variable {F : Nat → Pt} {n : Nat} {r : List Nat} (hN : ∀ i, i < n → nr (F i)) (h : SrtH F n r)
include hN h
theorem SrtH.len : r.length = n := by have := h.1.length_eq; simpa using this
theorem SrtH.lt {u : Nat} (hu : u < n) : r.getD u 0 < n := by
  have hl := SrtH.len hN h
  rw [gE _ _ (by omega)]
  exact List.mem_range.1 (h.1.mem_iff.1 (List.getElem_mem (by omega)))
theorem SrtH.at_ {i : Nat} (hi : i < n) : ∃ u, u < n ∧ r.getD u 0 = i := by
  have hl := SrtH.len hN h
  obtain ⟨u, hu, e⟩ := List.mem_iff_getElem.1 (h.1.mem_iff.2 (List.mem_range.2 hi))
  exact ⟨u, by omega, by rw [gE _ _ hu]; exact e⟩
theorem SrtH.le {u v : Nat} (huv : u ≤ v) (hv : v < n) : lv (F (r.getD u 0)) ≤ lv (F (r.getD v 0)) := by
  rcases Nat.eq_or_lt_of_le huv with e | e
  · rw [e]; exact Int.le_refl _
  · have h1 := h.2 u v e hv
    rcases Int.lt_or_le (lv (F (r.getD v 0))) (lv (F (r.getD u 0))) with k | k
    · exact absurd (.inl ((lv_lt (hN _ (SrtH.lt hN h hv)) (hN _ (SrtH.lt hN h (by omega)))).1 k)) h1
    · exact k
theorem compH_inv : ∀ m, m ≤ n → (compH F r m).Pairwise (fun a b => lv (F a) < lv (F b)) ∧ (∀ a ∈ compH F r m, ∃ j, j < m ∧ a = r.getD j 0 ∧ keepsH F r j = true) ∧ ∀ j, j < m → ∃ a ∈ compH F r m, F a = F (r.getD j 0)
  | 0, _ => ⟨List.Pairwise.nil, by simp [compH], fun j hj => absurd hj (by omega)⟩
  | m + 1, hm => by
    obtain ⟨i1, i2, i3⟩ := compH_inv m (by omega)
    rw [compH]
    by_cases hk : keepsH F r m = true
    · rw [if_pos hk]
      refine ⟨?_, fun a ha => ?_, fun j hj => ?_⟩
      · rw [List.pairwise_append]
        refine ⟨i1, List.pairwise_singleton _ _, fun a ha b hb => ?_⟩
        rw [List.mem_singleton.1 hb]
        obtain ⟨j, hj, rfl, _⟩ := i2 a ha
        obtain ⟨m0, rfl⟩ : ∃ m0, m = m0 + 1 := ⟨m - 1, by omega⟩
        have h1 := SrtH.le hN h (show j ≤ m0 by omega) (by omega)
        have h2 := SrtH.le hN h (show m0 ≤ m0 + 1 by omega) (by omega)
        have h3 : F (r.getD (m0 + 1) 0) ≠ F (r.getD m0 0) := by simpa [keepsH] using hk
        rcases Int.lt_or_eq_of_le h2 with k | k
        · omega
        · exact absurd (lv_eq (hN _ (SrtH.lt hN h (by omega))) (hN _ (SrtH.lt hN h (by omega))) k).symm h3
      · rcases List.mem_append.1 ha with ha | ha
        · obtain ⟨j, hj, e1, e2⟩ := i2 a ha
          exact ⟨j, by omega, e1, e2⟩
        · exact ⟨m, by omega, List.mem_singleton.1 ha, hk⟩
      · rcases Nat.lt_or_ge j m with c | c
        · obtain ⟨a, ha, e⟩ := i3 j c
          exact ⟨a, List.mem_append_left _ ha, e⟩
        · rw [show j = m from by omega]
          exact ⟨_, List.mem_append_right _ (List.mem_singleton.2 rfl), rfl⟩
    · rw [if_neg hk]
      refine ⟨i1, fun a ha => ?_, fun j hj => ?_⟩
      · obtain ⟨j, hj, e1, e2⟩ := i2 a ha
        exact ⟨j, by omega, e1, e2⟩
      · rcases Nat.lt_or_ge j m with c | c
        · exact i3 j c
        · rw [show j = m from by omega]
          have hk' : ¬ m = 0 ∧ F (r.getD m 0) = F (r.getD (m - 1) 0) := by simpa [keepsH] using hk
          obtain ⟨a, ha, e⟩ := i3 (m - 1) (by omega)
          exact ⟨a, ha, by rw [e, hk'.2]⟩
theorem compH_ord : OrdIs F n (compH F r n) := by
  obtain ⟨i1, i2, i3⟩ := compH_inv hN h n (Nat.le_refl _)
  refine ⟨i1, fun a ha => ?_, fun p hp => ?_⟩
  · obtain ⟨j, hj, rfl, hk⟩ := i2 a ha
    refine ⟨SrtH.lt hN h hj, fun q hq e => ?_⟩
    obtain ⟨i, hi, rfl⟩ := SrtH.at_ hN h (show q < n by have := SrtH.lt hN h hj; omega)
    rcases Nat.lt_trichotomy i j with c | c | c
    · obtain ⟨j0, rfl⟩ : ∃ j0, j = j0 + 1 := ⟨j - 1, by omega⟩
      have h1 := SrtH.le hN h (show i ≤ j0 by omega) (by omega)
      have h2 := SrtH.le hN h (show j0 ≤ j0 + 1 by omega) (by omega)
      have h3 : F (r.getD (j0 + 1) 0) ≠ F (r.getD j0 0) := by simpa [keepsH] using hk
      rw [e] at h1
      exact h3 (lv_eq (hN _ (SrtH.lt hN h (by omega))) (hN _ (SrtH.lt hN h (by omega))) (by omega))
    · subst c; omega
    · exact h.2 j i c hi (.inr ⟨e, hq⟩)
  · obtain ⟨u, hu, rfl⟩ := SrtH.at_ hN h hp
    exact i3 u hu
theorem compH_pos (hn : 0 < n) : 0 < (compH F r n).length := by
  obtain ⟨a, ha, _⟩ := (compH_ord hN h).all 0 hn
  exact List.length_pos_of_mem ha
end
attribute [irreducible] compH keepsH
/-- Are two places at one position? -/
def sameP (l : List Int) (x y : Int) : Bool := decide (l.getD (x.toNat * 3) 0 = l.getD (y.toNat * 3) 0) && decide (l.getD (x.toNat * 3 + 1) 0 = l.getD (y.toNat * 3 + 1) 0)
theorem stays_keeps (l : List Int) (r : List Nat) (j : Nat) : Go.Dam.stays (sameP l) (natH r) j = keepsH (ptF l) r j := by
  unfold Go.Dam.stays keepsH sameP ptF
  rw [natH_at, natH_at]
  simp only [Int.toNat_natCast, Prod.mk.injEq]
  by_cases h : j = 0
  · simp [h]
  · by_cases h1 : l.getD (r.getD j 0 * 3) 0 = l.getD (r.getD (j - 1) 0 * 3) 0 <;> by_cases h2 : l.getD (r.getD j 0 * 3 + 1) 0 = l.getD (r.getD (j - 1) 0 * 3 + 1) 0 <;> simp [h, h1, h2]
theorem compL_compH (l : List Int) (r : List Nat) : ∀ m, Go.Dam.compL (sameP l) (natH r) m = natH (compH (ptF l) r m)
  | 0 => by unfold Go.Dam.compL compH; rfl
  | m + 1 => by
    have ih := compL_compH l r m
    unfold Go.Dam.compL compH
    rw [stays_keeps, ih]
    by_cases h : keepsH (ptF l) r m = true
    · rw [if_pos h, if_pos h, natH_app, natH_at]; rfl
    · rw [if_neg h, if_neg h]
end Go.Dam.Hull
