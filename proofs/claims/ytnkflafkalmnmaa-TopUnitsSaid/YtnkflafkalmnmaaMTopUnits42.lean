/-
  Plain words of the law TopUnits: the codes of points, and how the drawn points lie. Conditions: none.
-/
import Derived.Test.YtnkflafkalmnmaaMTopUnits37
import Derived.Test.YtnkflafkalmnmaaMTopUnits38
import Derived.Test.YtnkflafkalmnmaaMTopUnits39
import Derived.Test.YtnkflafkalmnmaaMTopUnits41
namespace Go.Dam.Klee
open Go Go.RowKit Go.Dam
set_option linter.unusedVariables false
/-- The points of the law, flat. -/
def unitPs (l : List Int) (n : Nat) : List Int := pickP l 9 n ++ [3, 4, 0]
theorem unitPs_eq (l : List Int) (n : Nat) : pickP l 9 n ++ [3, 4, 0] = unitPs l n := rfl
theorem unitPs_len (l : List Int) (n : Nat) : (unitPs l n).length = (n + 1) * 3 := by unfold unitPs; rw [List.length_append, pickP_len]; simp; omega
theorem unitPs_wf (l : List Int) (n : Nat) : ∀ z ∈ unitPs l n, (Lit.int .i64 z).wf = true := fun z hz => by
  unfold unitPs at hz
  rw [List.mem_append] at hz
  rcases hz with hz | hz
  · have := pickP_wf (l := l) (b := 9) (by omega) n z hz
    exact WalkArith.wf_i64 (by omega)
  · simp at hz
    rcases hz with rfl | rfl | rfl <;> decide
theorem unitPs_at (l : List Int) (n i : Nat) (h : i < n + 1) : (0 ≤ (unitPs l n).getD (i * 3) 0 ∧ (unitPs l n).getD (i * 3) 0 < 9) ∧ (0 ≤ (unitPs l n).getD (i * 3 + 1) 0 ∧ (unitPs l n).getD (i * 3 + 1) 0 < 9) := by
  have hl := pickP_len l 9 n
  unfold unitPs
  simp only [List.getD_eq_getElem?_getD]
  rcases Nat.lt_or_ge i n with h1 | h1
  · have := pickP_at (l := l) (b := 9) (by omega) n i h1
    simp only [List.getD_eq_getElem?_getD] at this
    rw [List.getElem?_append_left (by omega), List.getElem?_append_left (by omega)]
    exact this
  · obtain rfl : i = n := by omega
    rw [List.getElem?_append_right (by omega), List.getElem?_append_right (by omega), hl, show i * 3 - i * 3 = 0 by omega, show i * 3 + 1 - i * 3 = 1 by omega]
    simp
attribute [irreducible] unitPs
/-- The code of point i. -/
def codeN (ps : List Int) (i : Nat) : Int := ((zipB (ps.getD (i * 3) 0).toNat (ps.getD (i * 3 + 1) 0).toNat 21 : Nat) : Int)
theorem zip_code9 {x y : Nat} (hx : x < 256) (hy : y < 256) : zipB x y 21 = cdK 8 x y := by
  rw [show 21 = 8 + 13 from rfl, zip_more x y 8 (by omega) (by omega) 13, cdK_zip]
theorem codeN_inj {ps : List Int} {n : Nat} (h : ∀ i, i < n → (0 ≤ ps.getD (i * 3) 0 ∧ ps.getD (i * 3) 0 < 9) ∧ (0 ≤ ps.getD (i * 3 + 1) 0 ∧ ps.getD (i * 3 + 1) 0 < 9)) (i j : Nat) (hi : i < n) (hj : j < n) : codeN ps i = codeN ps j ↔ ps.getD (i * 3) 0 = ps.getD (j * 3) 0 ∧ ps.getD (i * 3 + 1) 0 = ps.getD (j * 3 + 1) 0 := by
  have a := h i hi
  have b := h j hj
  unfold codeN
  rw [zip_code9 (by omega) (by omega), zip_code9 (by omega) (by omega)]
  constructor
  · intro e
    have e' : cdK 8 (ps.getD (i * 3) 0).toNat (ps.getD (i * 3 + 1) 0).toNat = cdK 8 (ps.getD (j * 3) 0).toNat (ps.getD (j * 3 + 1) 0).toNat := by omega
    have x := congrArg (dxK 8) e'
    have y := congrArg (dyK 8) e'
    rw [dxK_cd 8 _ _ (by omega), dxK_cd 8 _ _ (by omega)] at x
    rw [dyK_cd 8 _ _ (by omega), dyK_cd 8 _ _ (by omega)] at y
    omega
  · rintro ⟨e1, e2⟩
    rw [e1, e2]
theorem codeN_bd {ps : List Int} {n : Nat} (h : ∀ i, i < n → (0 ≤ ps.getD (i * 3) 0 ∧ ps.getD (i * 3) 0 < 9) ∧ (0 ≤ ps.getD (i * 3 + 1) 0 ∧ ps.getD (i * 3 + 1) 0 < 9)) (i : Nat) (hi : i < n) : 0 ≤ codeN ps i ∧ codeN ps i < 4398046511104 := by
  unfold codeN
  have := zipB_lt (ps.getD (i * 3) 0).toNat (ps.getD (i * 3 + 1) 0).toNat 21
  have e : (4 : Nat) ^ 21 = 4398046511104 := by decide
  omega
/-- The first n codes. -/
def codesL (ps : List Int) : Nat → List Int
  | 0 => []
  | n + 1 => codesL ps n ++ [codeN ps n]
theorem codesL_0 (ps : List Int) : codesL ps 0 = [] := rfl
theorem codesL_s (ps : List Int) (n : Nat) : codesL ps (n + 1) = codesL ps n ++ [codeN ps n] := rfl
theorem codesL_len (ps : List Int) : ∀ n, (codesL ps n).length = n
  | 0 => rfl
  | n + 1 => by rw [codesL_s, List.length_append, codesL_len ps n]; rfl
theorem codesL_at (ps : List Int) {i : Nat} : ∀ {n : Nat}, i < n → (codesL ps n).getD i 0 = codeN ps i
  | 0, h => absurd h (by omega)
  | n + 1, h => by
    have hl := codesL_len ps n
    rw [codesL_s, List.getD_eq_getElem?_getD]
    rcases Nat.lt_or_ge i n with h1 | h1
    · rw [List.getElem?_append_left (by omega), ← List.getD_eq_getElem?_getD, codesL_at ps h1]
    · obtain rfl : i = n := by omega
      rw [List.getElem?_append_right (by omega), hl, Nat.sub_self]; rfl
attribute [irreducible] codeN codesL
/-- Ranks tell codes apart. -/
theorem ranks_eq {cs vs rs : List Int} (h : RankR cs vs rs) {i j : Nat} (hi : i < cs.length) (hj : j < cs.length) : rs.getD j 0 = rs.getD i 0 ↔ cs.getD j 0 = cs.getD i 0 := by
  obtain ⟨k, ek, hk⟩ := h.2.2 i hi
  obtain ⟨m, em, hm⟩ := h.2.2 j hj
  have vi : cs.getD i 0 ∈ vs := (h.1.2 _).2 (getD_mem hi)
  have vj : cs.getD j 0 ∈ vs := (h.1.2 _).2 (getD_mem hj)
  have ai := h.1.at_rank vi
  have aj := h.1.at_rank vj
  rw [rankOf_less h.1.asc _ _ hk] at ai
  rw [rankOf_less h.1.asc _ _ hm] at aj
  rw [ek, em]
  constructor
  · intro e
    have : m = k := by omega
    rw [← aj.2, ← ai.2, this]
  · intro e
    rw [e] at hm
    rw [hm.uniq hk]
end Go.Dam.Klee
