/-
  Plain laws of making a wave, no program in sight: numbers parted by a bit, level by level; a stable sort by a bit is that parting. Conditions: none.
-/
import Derived.Test.YtjnndbllaplkcaaStabR
import Derived.Test.YtjnndbllaplkcaaPackPlain
namespace Go.Dam
open Go Go.Dam.Stable
set_option linter.unusedVariables false
/-- Bit k of a number. -/
def bitK (k : Nat) (z : Int) : Bool := decide (z / 2 ^ k % 2 = 1)
/-- The numbers whose bit k is b, in their order. -/
def halfK (k : Nat) (b : Bool) (m : List Int) : List Int := m.filter fun z => bitK k z == b
/-- Parted by bit k. -/
def partK (k : Nat) (m : List Int) : List Int := halfK k false m ++ halfK k true m
/-- Ahead by bit k. -/
def ltK (k : Nat) (x y : Int) : Bool := decide (x / 2 ^ k % 2 < y / 2 ^ k % 2)
theorem ltK_weak (k : Nat) : Weak (ltK k) where
  asym x y h := by simp only [ltK, decide_eq_true_eq] at h; simp only [ltK, decide_eq_false_iff_not]; omega
  tr x y z h g := by simp only [ltK, decide_eq_true_eq] at h g ⊢; omega
  neg x y z h g := by simp only [ltK, decide_eq_false_iff_not] at h g ⊢; omega
theorem tagL_up {β : Type} (l : List β) : (tagL l).Pairwise fun x y => x.1 < y.1 := by
  rw [List.pairwise_iff_getElem]
  intro i j hi hj hij
  have h1 := tagL_get l i (by rw [← tagL_len]; exact hi)
  have h2 := tagL_get l j (by rw [← tagL_len]; exact hj)
  rw [List.getElem?_eq_getElem hi] at h1
  rw [List.getElem?_eq_getElem hj] at h2
  injection h1 with h1
  injection h2 with h2
  rw [h1, h2]; exact hij
theorem bitK_yes {k : Nat} {z : Int} (h : bitK k z = true) : z / 2 ^ k % 2 = 1 := by simpa [bitK] using h
theorem bitK_no {k : Nat} {z : Int} (h : bitK k z = false) : z / 2 ^ k % 2 = 0 := by
  simp [bitK] at h
  omega
theorem stab_part (k : Nat) (m : List Int) : StabR (ltK k) m (partK k m) := by
  refine ⟨((tagL m).filter fun x => bitK k x.2 == false) ++ ((tagL m).filter fun x => bitK k x.2 == true), ?_, ?_, ?_⟩
  · have h := List.filter_append_perm (fun x : Nat × Int => bitK k x.2 == false) (tagL m)
    have e : ((tagL m).filter fun x => !(bitK k x.2 == false)) = (tagL m).filter fun x => bitK k x.2 == true := by
      congr 1; funext x; cases bitK k x.2 <;> rfl
    rw [e] at h
    exact h
  · rw [List.pairwise_append]
    refine ⟨?_, ?_, ?_⟩
    · refine ((tagL_up m).filter _).imp_of_mem fun {x y} hx hy h => ?_
      have h1 := bitK_no (by simpa using (List.mem_filter.1 hx).2)
      have h2 := bitK_no (by simpa using (List.mem_filter.1 hy).2)
      exact .inr ⟨by simp only [ltK, decide_eq_false_iff_not]; omega, by simp only [ltK, decide_eq_false_iff_not]; omega, h⟩
    · refine ((tagL_up m).filter _).imp_of_mem fun {x y} hx hy h => ?_
      have h1 := bitK_yes (by simpa using (List.mem_filter.1 hx).2)
      have h2 := bitK_yes (by simpa using (List.mem_filter.1 hy).2)
      exact .inr ⟨by simp only [ltK, decide_eq_false_iff_not]; omega, by simp only [ltK, decide_eq_false_iff_not]; omega, h⟩
    · intro x hx y hy
      have h1 := bitK_no (by simpa using (List.mem_filter.1 hx).2)
      have h2 := bitK_yes (by simpa using (List.mem_filter.1 hy).2)
      exact .inl (by simp only [ltK, decide_eq_true_eq]; omega)
  · have key : ∀ b, ((tagL m).filter fun x => bitK k x.2 == b).map (·.2) = halfK k b m := fun b => by
      unfold halfK
      conv => rhs; rw [← tagL_snd m]
      rw [List.filter_map]
      rfl
    rw [List.map_append, key, key]
    rfl
theorem halfK_snoc (k : Nat) (b : Bool) (m : List Int) (z : Int) : halfK k b (m ++ [z]) = if bitK k z = b then halfK k b m ++ [z] else halfK k b m := by
  unfold halfK
  rw [List.filter_append]
  by_cases h : bitK k z = b
  · rw [if_pos h]; simp [List.filter_cons, h]
  · rw [if_neg h]
    have : (bitK k z == b) = false := by simpa using h
    simp [List.filter_cons, this]
theorem halfK_len (k : Nat) (b : Bool) (m : List Int) : (halfK k b m).length ≤ m.length := List.length_filter_le _ _
theorem partK_len (k : Nat) (m : List Int) : (partK k m).length = m.length := (stab_part k m).len
theorem partK_mem {k : Nat} {m : List Int} {z : Int} (h : z ∈ partK k m) : z ∈ m := (stab_part k m).perm.mem_iff.1 h
/-- The numbers after t rounds. -/
def nowK (lv : Nat) (l : List Int) : Nat → List Int
  | 0 => l
  | t + 1 => partK (lv - 1 - t) (nowK lv l t)
theorem nowK_0 (lv : Nat) (l : List Int) : nowK lv l 0 = l := rfl
theorem nowK_succ (lv : Nat) (l : List Int) (t : Nat) : nowK lv l (t + 1) = partK (lv - 1 - t) (nowK lv l t) := rfl
theorem nowK_len (lv : Nat) (l : List Int) : ∀ t, (nowK lv l t).length = l.length
  | 0 => rfl
  | t + 1 => by rw [nowK_succ, partK_len, nowK_len lv l t]
theorem nowK_mem {lv : Nat} {l : List Int} {z : Int} : ∀ t, z ∈ nowK lv l t → z ∈ l
  | 0, h => h
  | t + 1, h => by rw [nowK_succ] at h; exact nowK_mem t (partK_mem h)
/-- A level's bits. -/
def bitsK (k : Nat) (m : List Int) : List Bool := m.map (bitK k)
theorem bitsK_len (k : Nat) (m : List Int) : (bitsK k m).length = m.length := List.length_map _
/-- The words of level t. -/
def wordsK (lv : Nat) (l : List Int) (t : Nat) : List Nat := packW (bitsK (lv - 1 - t) (nowK lv l t)) ((l.length + 63) / 64) l.length
/-- The words of the first levels. -/
def levsK (lv : Nat) (l : List Int) : Nat → List (List Nat)
  | 0 => []
  | t + 1 => levsK lv l t ++ [wordsK lv l t]
theorem levsK_0 (lv : Nat) (l : List Int) : levsK lv l 0 = [] := rfl
theorem levsK_succ (lv : Nat) (l : List Int) (t : Nat) : levsK lv l (t + 1) = levsK lv l t ++ [wordsK lv l t] := rfl
theorem levsK_len (lv : Nat) (l : List Int) : ∀ t, (levsK lv l t).length = t
  | 0 => rfl
  | t + 1 => by rw [levsK_succ, List.length_append, levsK_len lv l t]; rfl
attribute [irreducible] bitK halfK partK ltK nowK bitsK wordsK levsK
end Go.Dam
