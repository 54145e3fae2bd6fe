/-
  Plain law of a rectangle's codes, no program in sight: the codes row by row, sorted, are those that are met, in order. Conditions: the rectangle lies in the first 256 places.
-/
import Derived.Test.YtaipnjoeejgnnaaMMortonCovers11
import Derived.Test.YtaipnjoeejgnnaaMMortonCovers09
namespace Go.Dam
set_option linter.unusedVariables false
/-- The codes of one row of places. -/
def codesRow (y0 x n : Nat) : List Nat := (List.range n).map fun j => cdK 8 x (y0 + j)
/-- The codes of the first rows. -/
def codesAll (x0 y0 ny m : Nat) : List Nat := (List.range m).flatMap fun i => codesRow y0 (x0 + i) ny
theorem codesRow_0 (y0 x : Nat) : codesRow y0 x 0 = [] := rfl
theorem codesRow_succ (y0 x n : Nat) : codesRow y0 x (n + 1) = codesRow y0 x n ++ [cdK 8 x (y0 + n)] := by unfold codesRow; rw [List.range_succ, List.map_append]; rfl
theorem codesRow_len (y0 x n : Nat) : (codesRow y0 x n).length = n := by unfold codesRow; simp
theorem codesAll_0 (x0 y0 ny : Nat) : codesAll x0 y0 ny 0 = [] := rfl
theorem codesAll_succ (x0 y0 ny m : Nat) : codesAll x0 y0 ny (m + 1) = codesAll x0 y0 ny m ++ codesRow y0 (x0 + m) ny := by unfold codesAll; rw [List.range_succ, List.flatMap_append]; simp
theorem codesAll_len (x0 y0 ny : Nat) : ∀ m, (codesAll x0 y0 ny m).length = m * ny
  | 0 => by rw [codesAll_0]; simp
  | m + 1 => by rw [codesAll_succ, List.length_append, codesAll_len x0 y0 ny m, codesRow_len, Nat.succ_mul]
theorem codes_mem {x0 y0 nx ny c : Nat} (hx : x0 + nx ≤ 256) (hy : y0 + ny ≤ 256) : c ∈ codesAll x0 y0 ny nx ↔ c < 65536 ∧ x0 ≤ dxK 8 c ∧ dxK 8 c < x0 + nx ∧ y0 ≤ dyK 8 c ∧ dyK 8 c < y0 + ny := by
  have e8 : (2 : Nat) ^ 8 = 256 := by decide
  have e4 : (4 : Nat) ^ 8 = 65536 := by decide
  unfold codesAll codesRow
  constructor
  · intro h
    obtain ⟨i, hi, h⟩ := List.mem_flatMap.1 h
    obtain ⟨j, hj, rfl⟩ := List.mem_map.1 h
    have hi := List.mem_range.1 hi
    have hj := List.mem_range.1 hj
    have h1 := cdK_lt 8 (x0 + i) (y0 + j)
    rw [dxK_cd 8 _ _ (by omega), dyK_cd 8 _ _ (by omega)]
    omega
  · rintro ⟨h0, h1, h2, h3, h4⟩
    refine List.mem_flatMap.2 ⟨dxK 8 c - x0, List.mem_range.2 (by omega), List.mem_map.2 ⟨dyK 8 c - y0, List.mem_range.2 (by omega), ?_⟩⟩
    rw [show x0 + (dxK 8 c - x0) = dxK 8 c from by omega, show y0 + (dyK 8 c - y0) = dyK 8 c from by omega]
    exact cdK_d 8 c (by omega)
theorem codes_ne {x0 y0 nx ny : Nat} (hx : x0 + nx ≤ 256) (hy : y0 + ny ≤ 256) : (codesAll x0 y0 ny nx).Pairwise (· ≠ ·) := by
  have e8 : (2 : Nat) ^ 8 = 256 := by decide
  unfold codesAll codesRow
  rw [List.pairwise_flatMap]
  refine ⟨fun i hi => ?_, ?_⟩
  · rw [List.pairwise_map]
    refine List.Pairwise.imp_of_mem ?_ (List.pairwise_lt_range (n := ny))
    intro a b ha hb hab e
    have ha := List.mem_range.1 ha
    have hb := List.mem_range.1 hb
    have h1 := congrArg (dyK 8) e
    rw [dyK_cd 8 _ _ (by omega), dyK_cd 8 _ _ (by omega)] at h1
    omega
  · refine List.Pairwise.imp_of_mem ?_ (List.pairwise_lt_range (n := nx))
    intro a b ha hb hab u hu v hv e
    have ha := List.mem_range.1 ha
    have hb := List.mem_range.1 hb
    obtain ⟨j, hj, rfl⟩ := List.mem_map.1 hu
    obtain ⟨j2, hj2, rfl⟩ := List.mem_map.1 hv
    have h1 := congrArg (dxK 8) e
    rw [dxK_cd 8 _ _ (by omega), dxK_cd 8 _ _ (by omega)] at h1
    omega
/-- Nats as numbers. -/
def natC (l : List Nat) : List Int := l.map fun i : Nat => (i : Int)
theorem natC_len (l : List Nat) : (natC l).length = l.length := by simp [natC]
theorem natC_snoc (l : List Nat) (x : Nat) : natC (l ++ [x]) = natC l ++ [(x : Int)] := by simp [natC]
/-- The codes that are met. -/
def metL (x0 y0 x1 y1 : Int) : List Nat := (List.range 65536).filter (inC x0 y0 x1 y1)
theorem codes_sorted {x0 y0 x1 y1 : Nat} (hx : x0 ≤ x1) (hx1 : x1 ≤ 255) (hy : y0 ≤ y1) (hy1 : y1 ≤ 255) : sortI (natC (codesAll x0 y0 (y1 + 1 - y0) (x1 + 1 - x0))) = natC (metL x0 y0 x1 y1) := by
  refine strict_uniq ?_ ?_ fun z => ?_
  · have h1 := sortI_sorted (natC (codesAll x0 y0 (y1 + 1 - y0) (x1 + 1 - x0)))
    have h2 : (natC (codesAll x0 y0 (y1 + 1 - y0) (x1 + 1 - x0))).Pairwise (· ≠ ·) := by
      unfold natC
      rw [List.pairwise_map]
      exact (codes_ne (by omega) (by omega)).imp fun h e => h (by omega)
    have h3 : (sortI (natC (codesAll x0 y0 (y1 + 1 - y0) (x1 + 1 - x0)))).Pairwise (· ≠ ·) := (sortI_perm _).nodup_iff.2 h2
    exact (h1.and h3).imp fun ⟨a, b⟩ => by omega
  · unfold natC metL
    rw [List.pairwise_map]
    exact (List.pairwise_lt_range.filter _).imp fun h => by omega
  · rw [(sortI_perm _).mem_iff]
    unfold natC metL
    rw [List.mem_map, List.mem_map]
    constructor
    · rintro ⟨c, hc, rfl⟩
      have := (codes_mem (by omega) (by omega)).1 hc
      refine ⟨c, List.mem_filter.2 ⟨List.mem_range.2 this.1, ?_⟩, rfl⟩
      unfold inC; simp only [Bool.and_eq_true, decide_eq_true_eq]; omega
    · rintro ⟨c, hc, rfl⟩
      obtain ⟨h1, h2⟩ := List.mem_filter.1 hc
      have h1 := List.mem_range.1 h1
      unfold inC at h2; simp only [Bool.and_eq_true, decide_eq_true_eq] at h2
      exact ⟨c, (codes_mem (by omega) (by omega)).2 (by omega), rfl⟩
/-- The spans of the first t codes that are met. -/
def runsTo (S : List Nat) (t : Nat) : List (Nat × Nat) := (S.take t).foldl (fun l c => addRun l c c) []
theorem runsTo_0 (S : List Nat) : runsTo S 0 = [] := rfl
theorem runsTo_succ {S : List Nat} {t : Nat} (h : t < S.length) : runsTo S (t + 1) = addRun (runsTo S t) S[t] S[t] := by
  unfold runsTo
  rw [List.take_succ_eq_append_getElem h, List.foldl_append]; rfl
theorem runsTo_end (x0 y0 x1 y1 : Int) : runsTo (metL x0 y0 x1 y1) (metL x0 y0 x1 y1).length = runsK (inC x0 y0 x1 y1) 65536 := by
  unfold runsTo
  rw [List.take_length]
  exact runs_fold _ _
theorem runsTo_len (S : List Nat) : ∀ t, (runsTo S t).length ≤ t
  | 0 => Nat.le_refl _
  | t + 1 => by
    by_cases h : t < S.length
    · rw [runsTo_succ h]; have := addRun_len (runsTo S t) S[t] S[t]; have := runsTo_len S t; omega
    · have := runsTo_len S t
      have e : runsTo S (t + 1) = runsTo S t := by unfold runsTo; rw [List.take_of_length_le (by omega), List.take_of_length_le (by omega)]
      rw [e]; omega
theorem runsTo_mem {S : List Nat} (hS : ∀ c ∈ S, c < 65536) : ∀ t, ∀ p ∈ runsTo S t, p.1 < 65536 ∧ p.2 < 65536
  | 0, p, hp => by rw [runsTo_0] at hp; cases hp
  | t + 1, p, hp => by
    by_cases h : t < S.length
    · rw [runsTo_succ h] at hp
      exact addRun_mem (runsTo_mem hS t) (hS _ (List.getElem_mem h)) (hS _ (List.getElem_mem h)) p hp
    · have e : runsTo S (t + 1) = runsTo S t := by unfold runsTo; rw [List.take_of_length_le (by omega), List.take_of_length_le (by omega)]
      rw [e] at hp
      exact runsTo_mem hS t p hp
theorem metL_lt {x0 y0 x1 y1 : Int} {c : Nat} (h : c ∈ metL x0 y0 x1 y1) : c < 65536 := List.mem_range.1 (List.mem_filter.1 h).1
theorem metL_len (x0 y0 x1 y1 : Int) : (metL x0 y0 x1 y1).length ≤ 65536 := by unfold metL; exact Nat.le_trans (List.length_filter_le _ _) (by simp)
attribute [irreducible] codesRow codesAll metL runsTo
end Go.Dam
