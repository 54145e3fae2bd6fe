/-
  Contracts of the reference's KleeArea and KleeDepth. Conditions: the rectangles can be read as data.
-/
import Derived.Test.YtnkflafkalmnmaaMTopUnits34
import Derived.Test.YtnkflafkalmnmaaMTopUnits35
namespace Go.Dam.Klee
open Go Go.RowKit Go.Dam
set_option linter.unusedVariables false
/-- The sum so far, at cell (i, k). -/
def sumAt (f : Int → Int → Int) (c d : List Int) (i k : Nat) : Int := gridS f c d i + (c.getD (i + 1) 0 - c.getD i 0) * rowS (f (c.getD i 0)) d k
theorem sumAt_0 (f : Int → Int → Int) (c d : List Int) (i : Nat) : sumAt f c d i 0 = gridS f c d i := by unfold sumAt; rw [rowS_0, Int.mul_zero, Int.add_zero]
theorem sumAt_next (f : Int → Int → Int) (c d : List Int) (i : Nat) : sumAt f c d (i + 1) 0 = sumAt f c d i (d.length - 1) := by rw [sumAt_0, gridS_s]; rfl
theorem sumAt_step (f : Int → Int → Int) (c d : List Int) (i k : Nat) : sumAt f c d i (k + 1) = sumAt f c d i k + ((c.getD (i + 1) 0 - c.getD i 0) * (d.getD (k + 1) 0 - d.getD k 0)) * ind (f (c.getD i 0) (d.getD k 0)) := by
  unfold sumAt; rw [rowS_s, Int.mul_add, Int.mul_assoc]; omega
/-- The depth so far. -/
def depAt (f : Int → Int → Int) (c d : List Int) (i k : Nat) : Int := if c.getD (i + 1) 0 = c.getD i 0 then depI f c d i else depK (depI f c d i) (f (c.getD i 0)) d k
theorem depAt_0 (f : Int → Int → Int) (c d : List Int) (i : Nat) : depAt f c d i 0 = depI f c d i := by unfold depAt; rw [depK_0]; split <;> rfl
theorem depAt_next (f : Int → Int → Int) (c d : List Int) (i : Nat) : depAt f c d (i + 1) 0 = depAt f c d i (d.length - 1) := by
  rw [depAt_0]
  unfold depAt
  split
  · rename_i h; exact depI_eq h
  · rename_i h; exact depI_ne h
theorem depAt_skip {f : Int → Int → Int} {c d : List Int} {i k : Nat} (h : (c.getD (i + 1) 0 - c.getD i 0) * (d.getD (k + 1) 0 - d.getD k 0) = 0) : depAt f c d i (k + 1) = depAt f c d i k := by
  unfold depAt
  split
  · rfl
  · rename_i h1
    rcases Int.mul_eq_zero.1 h with h2 | h2
    · omega
    · exact depK_eq (by omega)
theorem depAt_step {f : Int → Int → Int} {c d : List Int} {i k : Nat} (h : (c.getD (i + 1) 0 - c.getD i 0) * (d.getD (k + 1) 0 - d.getD k 0) ≠ 0) : depAt f c d i (k + 1) = max (depAt f c d i k) (f (c.getD i 0) (d.getD k 0)) := by
  have h1 : ¬ c.getD (i + 1) 0 = c.getD i 0 := fun e => h (by rw [e, Int.sub_self, Int.zero_mul])
  have h2 : ¬ d.getD (k + 1) 0 = d.getD k 0 := fun e => h (by rw [e, Int.sub_self, Int.mul_zero])
  unfold depAt
  rw [if_neg h1, if_neg h1, depK_ne h2]
theorem areaV_def (l : List Int) (n : Nat) : areaV l n = gridS (deepN l n) (sortI (xsOf l n)) (sortI (ysOf l n)) (2 * n - 1) := by
  have : areaV l n = gridS (deepN l n) (sortI (xsOf l n)) (sortI (ysOf l n)) ((sortI (xsOf l n)).length - 1) := by with_unfolding_all rfl
  rw [this, sortI_len, xs_len]
theorem depthV_def (l : List Int) (n : Nat) : depthV l n = depI (deepN l n) (sortI (xsOf l n)) (sortI (ysOf l n)) (2 * n - 1) := by
  have : depthV l n = depI (deepN l n) (sortI (xsOf l n)) (sortI (ysOf l n)) ((sortI (xsOf l n)).length - 1) := by with_unfolding_all rfl
  rw [this, sortI_len, xs_len]
theorem sort_nearX {l : List Int} {n : Nat} (h : ∀ i, i < n → badRc l i = false) : NearAll (sortI (xsOf l n)) := fun z hz => by
  obtain ⟨q, hq, e⟩ := xs_mem ((sortI_perm _).mem_iff.1 hz)
  have := badRc_fine (h q hq)
  omega
theorem sort_nearY {l : List Int} {n : Nat} (h : ∀ i, i < n → badRc l i = false) : NearAll (sortI (ysOf l n)) := fun z hz => by
  obtain ⟨q, hq, e⟩ := ys_mem ((sortI_perm _).mem_iff.1 hz)
  have := badRc_fine (h q hq)
  omega
theorem sumAt_bd {m m' c d : List Int} (h : CutRow m c) (h' : CutRow m' d) (hn : NearAll c) (hn' : NearAll d) (hc : c.length ≤ 80) (f : Int → Int → Int) {i k : Nat} (hi : i + 1 < c.length) (hk : k < d.length) : 0 ≤ sumAt f c d i k ∧ sumAt f c d i k ≤ 1125899906842624 := by
  have a := gridS_bd h h' hn hn' f i (by omega)
  have b := h.1 i hi
  have e1 := hn.at_ (k := i) (by omega)
  have e2 := hn.at_ hi
  have p := part_bd h' hn' (f (c.getD i 0)) hk (x := c.getD (i + 1) 0 - c.getD i 0) (by omega)
  unfold sumAt
  omega
end Go.Dam.Klee
namespace Go.Proofs.Ytnkflafkalmnmaa
open Go Go.RowKit Go.Dam Go.Dam.Klee
set_option linter.unusedVariables false
end Go.Proofs.Ytnkflafkalmnmaa
