/-
  Plain laws of the greatest of a range, no program in sight: the place of the top, the last one sorted, the least of the numbers turned. Conditions: none.
-/
import Derived.Test.YtdmfhpigchbcbaaMTopMax00
import Derived.Test.YtdmfhpigchbcbaaMTopMax09
namespace Go.Dam
set_option linter.unusedVariables false
theorem leastF_le (f : Nat → Int) (lo : Nat) : ∀ k i, lo ≤ i → i ≤ lo + k → leastF f lo k ≤ f i
  | 0, i, a, b => by rw [show i = lo from by omega, leastF_0]; exact Int.le_refl _
  | k + 1, i, a, b => by
    rw [leastF_succ]
    by_cases h : i = lo + (k + 1)
    · subst h; omega
    · have := leastF_le f lo k i a (by omega); omega
theorem leastF_ge {f : Nat → Int} {lo : Nat} {m : Int} : ∀ k, (∀ i, lo ≤ i → i ≤ lo + k → m ≤ f i) → m ≤ leastF f lo k
  | 0, h => by rw [leastF_0]; exact h lo (by omega) (by omega)
  | k + 1, h => by
    rw [leastF_succ]
    have a := leastF_ge k fun i a b => h i a (by omega)
    have b := h (lo + (k + 1)) (by omega) (by omega)
    omega
theorem leastF_neg (f : Nat → Int) (lo k : Nat) : leastF (fun i => -f i) lo k = -f (topF f lo k) := by
  have h := topF_is f lo k
  have hb := topF_bd f lo k
  have h1 := leastF_le (fun i => -f i) lo k (topF f lo k) hb.1 hb.2
  have h2 : -f (topF f lo k) ≤ leastF (fun i => -f i) lo k := leastF_ge k fun i a b => by
    have := (topF_is f lo k).ge i a (by omega)
    omega
  omega
theorem sorted_last {l : List Int} {i d : Nat} (h : i + d < l.length) : (sortI ((l.drop i).take (d + 1))).getD d 0 = l.getD (topF (fun k => l.getD k 0) i d) 0 := by
  have hlen : (sortI ((l.drop i).take (d + 1))).length = d + 1 := by rw [sortI_len, List.length_take, List.length_drop]; omega
  have hb := topF_bd (fun k => l.getD k 0) i d
  have hmem : ∀ z, z ∈ sortI ((l.drop i).take (d + 1)) ↔ ∃ u, i ≤ u ∧ u ≤ i + d ∧ l.getD u 0 = z := fun z => by
    rw [(sortI_perm _).mem_iff]
    constructor
    · intro hz
      obtain ⟨u, hu, rfl⟩ := List.mem_iff_getElem.1 hz
      rw [List.length_take, List.length_drop] at hu
      rw [List.getElem_take, List.getElem_drop]
      exact ⟨i + u, by omega, by omega, by simp [show i + u < l.length from by omega]⟩
    · rintro ⟨u, h1, h2, rfl⟩
      refine List.mem_iff_getElem.2 ⟨u - i, by rw [List.length_take, List.length_drop]; omega, ?_⟩
      rw [List.getElem_take, List.getElem_drop]
      simp [show u < l.length from by omega, show i + (u - i) = u from by omega]
  have hso := sortI_sorted ((l.drop i).take (d + 1))
  obtain ⟨u, hu1, hu2, hu3⟩ := (hmem ((sortI ((l.drop i).take (d + 1))).getD d 0)).1 (by rw [List.getD_eq_getElem?_getD, List.getElem?_eq_getElem (by omega)]; exact List.getElem_mem _)
  have h1 := (topF_is (fun k => l.getD k 0) i d).ge u hu1 (by omega)
  obtain ⟨p, hp, hp2⟩ := List.mem_iff_getElem.1 ((hmem (l.getD (topF (fun k => l.getD k 0) i d) 0)).2 ⟨_, hb.1, hb.2, rfl⟩)
  have h2 : (sortI ((l.drop i).take (d + 1)))[p] ≤ (sortI ((l.drop i).take (d + 1))).getD d 0 := by
    rw [List.getD_eq_getElem?_getD, List.getElem?_eq_getElem (by omega)]
    rcases Nat.eq_or_lt_of_le (show p ≤ d from by omega) with rfl | g
    · exact Int.le_refl _
    · exact List.pairwise_iff_getElem.1 hso p d hp (by omega) g
  rw [hp2] at h2
  rw [hu3] at h1
  omega
end Go.Dam
