/-
  Plain facts of the reference's reading of an image, no program in sight: bounds on what is read, and when a reading is refused. Conditions: bounds on the bytes.
-/
import Derived.Test.YtaipnjoeejgnnaaLoadParse
namespace Go.Dam
set_option linter.unusedVariables false
open Go
theorem pz_bound (c : List Int) : ∀ t, (∀ j, j < t → (pz c j).2.2 ≤ 28) → (pz c t).2.1 < 2 ^ (pz c t).2.2 ∧ (pz c t).2.2 ≤ 35 ∧ (∀ m ∈ (pz c t).1, m < 34359738368) ∧ (pz c t).1.length ≤ t
  | 0, _ => by rw [pz_0]; simp
  | t + 1, h => by
    obtain ⟨h1, h2, h3, h4⟩ := pz_bound c t fun j hj => h j (by omega)
    have h5 := h t (by omega)
    obtain ⟨ns, v, s, hp⟩ : ∃ ns v s, pz c t = (ns, v, s) := ⟨_, _, _, rfl⟩
    rw [hp] at h1 h2 h3 h4 h5
    simp only at h1 h2 h3 h4 h5
    have hx : (c.getD t 0).toNat % 128 ≤ 127 := by omega
    have hm : (c.getD t 0).toNat % 128 * 2 ^ s ≤ 127 * 2 ^ s := Nat.mul_le_mul_right _ hx
    have hp7 : 2 ^ (s + 7) = 2 ^ s * 128 := by rw [Nat.pow_add]
    have hp35 : 2 ^ (s + 7) ≤ 2 ^ 35 := Nat.pow_le_pow_right (by decide) (by omega)
    by_cases hlo : (c.getD t 0).toNat < 128
    · rw [pz_lo hp hlo]
      refine ⟨by simp, by simp, fun m hm' => ?_, by simp; omega⟩
      rcases List.mem_append.1 hm' with e | e
      · exact h3 m e
      · rw [List.mem_singleton.1 e]; omega
    · rw [pz_hi hp hlo]
      refine ⟨?_, by simp only; omega, h3, by simp only; omega⟩
      simp only; omega
/-- No image has these bytes. -/
def NoLoad (b : List Int) : Prop := ∀ n l, ¬ Loads b n l
theorem noLoad_shift {b : List Int} {t : Nat} (ht : t < (midL b).length) (h : 28 < (pz (midL b) t).2.2) : NoLoad b := fun n l hl => by
  have := hl.parse.2 t ht
  omega
/-- What the numbers must be. -/
def NumsOk (ns : List Nat) (s : Nat) : Prop := s = 0 ∧ ns ≠ [] ∧ ns.getD 0 0 ≤ 150 ∧ ns.length = 1 + 3 * ns.getD 0 0
theorem noLoad_nums {b : List Int} {ns : List Nat} {v s : Nat} (hp : pz (midL b) (midL b).length = (ns, v, s)) (h : ¬ NumsOk ns s) : NoLoad b := fun n l hl => by
  have := hl.parse.1
  rw [hp] at this
  injection this with e1 e2
  injection e2 with e2 e3
  subst e1 e3
  refine h ⟨rfl, by simp, hl.1, ?_⟩
  rw [List.length_cons, foldsL_len, List.getD_cons_zero]; omega
theorem halvesL_len (ns : List Nat) : (halvesL ns).length = ns.length - 1 := by unfold halvesL; simp
theorem halvesL_at {ns : List Nat} {i : Nat} (h : i + 1 < ns.length) : (halvesL ns).getD i 0 = unfoldN (ns.getD (i + 1) 0) := by
  unfold halvesL
  rw [List.getD_eq_getElem?_getD, List.getElem?_map, List.getElem?_drop, show 1 + i = i + 1 from by omega, List.getElem?_eq_getElem h, List.getD_eq_getElem?_getD, List.getElem?_eq_getElem h]; rfl
/-- The numbers are those of an image, if the points that they tell have just these bytes as theirs. -/
theorem load_of {b : List Int} {ns : List Nat} {n : Nat} (h1 : ns.length = 1 + 3 * n) (hn : n ≤ 150) (hc : CoordsOk n (halvesL ns)) (hb : b = saveL n (halvesL ns)) : Loads b n (halvesL ns) :=
  ⟨hn, by rw [halvesL_len, h1]; omega, hc, hb⟩
theorem noLoad_bytes {b : List Int} {ns : List Nat} {v s n : Nat} (hp : pz (midL b) (midL b).length = (ns, v, s)) (hn : ns.getD 0 0 = n) (h : ¬ (n ≤ 150 ∧ CoordsOk n (halvesL ns) ∧ b = saveL n (halvesL ns))) : NoLoad b := fun n' l hl => by
  have := hl.parse.1
  rw [hp] at this
  injection this with e1 e2
  subst e1
  rw [List.getD_cons_zero] at hn
  subst hn
  rw [halves_folds n' l _ hl.2.1] at h
  exact h ⟨hl.1, hl.2.2.1, hl.2.2.2⟩
theorem midL_len {b : List Int} (h : 8 ≤ b.length) : (midL b).length = b.length - 8 := by unfold midL; rw [List.length_drop, List.length_take]; omega
theorem midL_at {b : List Int} {t : Nat} (h : t + 8 < b.length) : (midL b).getD t 0 = b.getD (4 + t) 0 := by
  unfold midL
  rw [List.getD_eq_getElem?_getD, List.getElem?_drop, List.getElem?_take_of_lt (by omega), ← List.getD_eq_getElem?_getD]
end Go.Dam
