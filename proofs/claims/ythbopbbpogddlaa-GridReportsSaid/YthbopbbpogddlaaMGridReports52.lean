/-
  Plain law: the places in a rectangle, as the index orders them, are what a stable sort by X and Y leaves of them. Conditions: none; nothing here names the program.
-/
import Derived.Test.YthbopbbpogddlaaMGridReports36
import Derived.Test.YthbopbbpogddlaaMGridReports45
namespace Go.Dam
open Go Go.RowKit Go.Dam.Stable
set_option linter.unusedVariables false
/-- How many places ahead of i are met. -/
def cntP (p : Nat → Bool) (i : Nat) : Nat := ((List.range i).filter p).length
theorem cntP_succ (p : Nat → Bool) (i : Nat) : cntP p (i + 1) = cntP p i + (if p i then 1 else 0) := by
  unfold cntP; rw [List.range_succ, List.filter_append, List.length_append]
  cases h : p i <;> simp [h]
theorem cntP_mono (p : Nat → Bool) {i : Nat} : ∀ {j}, i ≤ j → cntP p i ≤ cntP p j
  | 0, h => by obtain rfl : i = 0 := by omega
               exact Nat.le_refl _
  | j + 1, h => by
    rcases Nat.eq_or_lt_of_le h with rfl | g
    · exact Nat.le_refl _
    · have := cntP_mono p (i := i) (j := j) (by omega)
      rw [cntP_succ]; omega
theorem cntP_lt {p : Nat → Bool} {i j : Nat} (h : i < j) (hp : p i = true) : cntP p i < cntP p j := by
  have h1 := cntP_succ p i
  have h2 := cntP_mono p (show i + 1 ≤ j from h)
  rw [hp, if_pos rfl] at h1
  omega
theorem tagL_snoc {β : Type} (l : List β) (x : β) : tagL (l ++ [x]) = tagL l ++ [(l.length, x)] := by
  unfold tagL; rw [List.zipIdx_append, List.map_append]; simp
theorem tagL_filter (p : Nat → Bool) : ∀ n, tagL (natL ((List.range n).filter p)) = ((List.range n).filter p).map fun i => (cntP p i, (i : Int))
  | 0 => rfl
  | n + 1 => by
    have ih := tagL_filter p n
    rw [List.range_succ, List.filter_append, List.map_append]
    cases h : p n with
    | true =>
      have e : [n].filter p = [n] := by simp [h]
      rw [e]
      have e2 : natL ((List.range n).filter p ++ [n]) = natL ((List.range n).filter p) ++ [(n : Int)] := by unfold natL; simp
      rw [e2, tagL_snoc, ih, natL_len]; rfl
    | false =>
      have e : [n].filter p = [] := by simp [h]
      rw [e, List.append_nil, ih]; simp
theorem report_stab {l : List Int} {n : Nat} {rn : List Nat} (h : OrdXY l n rn) (p : Nat → Bool) : StabR (ltP l) (natL ((List.range n).filter p)) (natL (rn.filter p)) := by
  refine ⟨(rn.filter p).map fun i => (cntP p i, (i : Int)), ?_, ?_, ?_⟩
  · rw [tagL_filter]; exact (h.1.filter p).map _
  · have hl := h.len
    have h1 : rn.Pairwise fun a b => ¬ (l.getD (b * 3) 0 < l.getD (a * 3) 0 ∨ (l.getD (b * 3) 0 = l.getD (a * 3) 0 ∧ (l.getD (b * 3 + 1) 0 < l.getD (a * 3 + 1) 0 ∨ (l.getD (b * 3 + 1) 0 = l.getD (a * 3 + 1) 0 ∧ b < a)))) := by
      rw [List.pairwise_iff_getElem]
      intro u v hu hv huv
      have := h.2 u v huv (by omega)
      unfold xOf yOf at this
      rw [ge_at rn hu, ge_at rn hv] at this
      exact this
    have h2 : rn.Pairwise (· ≠ ·) := h.1.nodup_iff.2 List.nodup_range
    have h3 := (h1.and h2).filter p
    refine List.Pairwise.map _ (R := fun a b : Nat => TagT (ltP l) (cntP p a, (a : Int)) (cntP p b, (b : Int))) (fun a b hab => hab) ?_
    refine List.Pairwise.imp_of_mem ?_ h3
    rintro a b ha hb ⟨g1, g2⟩
    have hpa := (List.mem_filter.1 ha).2
    unfold TagT ltP ltXY
    simp only [Int.toNat_natCast]
    by_cases c1 : l.getD (a * 3) 0 < l.getD (b * 3) 0 ∨ (l.getD (a * 3) 0 = l.getD (b * 3) 0 ∧ l.getD (a * 3 + 1) 0 < l.getD (b * 3 + 1) 0)
    · left; rw [Bool.or_eq_true, Bool.and_eq_true, decide_eq_true_eq, decide_eq_true_eq, decide_eq_true_eq]; exact c1
    · right
      refine ⟨?_, ?_, cntP_lt (by omega) hpa⟩
      · rw [Bool.or_eq_false_iff, Bool.and_eq_false_iff, decide_eq_false_iff_not, decide_eq_false_iff_not, decide_eq_false_iff_not]; omega
      · rw [Bool.or_eq_false_iff, Bool.and_eq_false_iff, decide_eq_false_iff_not, decide_eq_false_iff_not, decide_eq_false_iff_not]; omega
  · unfold natL; rw [List.map_map]; rfl
end Go.Dam
