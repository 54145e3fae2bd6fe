/-
  Plain facts of the tree of brackets, no program in sight: which node an open place is, and which node is its parent. Conditions: the text is of brackets.
-/
import Derived.Test.YtlojecajonhmhaaMParenTexts09
set_option linter.unusedVariables false
set_option linter.unusedSimpArgs false
namespace Go.Dam
set_option linter.unusedVariables false
open Go
/-- How many open ones lie ahead of a place. -/
def opn (f : Nat → Nat) : Nat → Nat
  | 0 => 0
  | i + 1 => if f i = 40 then opn f i + 1 else opn f i
theorem opn_0 (f : Nat → Nat) : opn f 0 = 0 := rfl
theorem opn_yes {f : Nat → Nat} {i : Nat} (h : f i = 40) : opn f (i + 1) = opn f i + 1 := by rw [opn, if_pos h]
theorem opn_no {f : Nat → Nat} {i : Nat} (h : f i ≠ 40) : opn f (i + 1) = opn f i := by rw [opn, if_neg h]
theorem opn_le (f : Nat → Nat) : ∀ i, opn f i ≤ i
  | 0 => by rw [opn_0]; exact Nat.le_refl _
  | i + 1 => by
    have := opn_le f i
    by_cases h : f i = 40
    · rw [opn_yes h]; omega
    · rw [opn_no h]; omega
theorem opn_mono (f : Nat → Nat) (i : Nat) : ∀ d, opn f i ≤ opn f (i + d)
  | 0 => Nat.le_refl _
  | d + 1 => by
    have := opn_mono f i d
    by_cases h : f (i + d) = 40
    · rw [← Nat.add_assoc, opn_yes h]; omega
    · rw [← Nat.add_assoc, opn_no h]; omega
theorem opn_lt {f : Nat → Nat} {i j : Nat} (h : f i = 40) (hj : i < j) : opn f i < opn f j := by
  have := opn_mono f (i + 1) (j - (i + 1))
  rw [show i + 1 + (j - (i + 1)) = j from by omega, opn_yes h] at this
  omega
/-- The open places ahead of a place. -/
def opensL (f : Nat → Nat) : Nat → List Nat
  | 0 => []
  | i + 1 => if f i = 40 then opensL f i ++ [i] else opensL f i
theorem opensL_0 (f : Nat → Nat) : opensL f 0 = [] := rfl
theorem opensL_yes {f : Nat → Nat} {i : Nat} (h : f i = 40) : opensL f (i + 1) = opensL f i ++ [i] := by rw [opensL, if_pos h]
theorem opensL_no {f : Nat → Nat} {i : Nat} (h : f i ≠ 40) : opensL f (i + 1) = opensL f i := by rw [opensL, if_neg h]
theorem opensL_len (f : Nat → Nat) : ∀ i, (opensL f i).length = opn f i
  | 0 => rfl
  | i + 1 => by
    by_cases h : f i = 40
    · rw [opensL_yes h, opn_yes h, List.length_append, opensL_len f i]; rfl
    · rw [opensL_no h, opn_no h, opensL_len f i]
theorem opensL_at (f : Nat → Nat) : ∀ n t, t < opn f n → ∃ p, p < n ∧ f p = 40 ∧ opn f p = t ∧ (opensL f n).getD t 0 = p
  | 0, t, h => by rw [opn_0] at h; omega
  | n + 1, t, h => by
    by_cases hn : f n = 40
    · rw [opn_yes hn] at h
      rw [opensL_yes hn]
      rcases Nat.lt_or_ge t (opn f n) with g | g
      · obtain ⟨p, h1, h2, h3, h4⟩ := opensL_at f n t g
        exact ⟨p, by omega, h2, h3, by rw [List.getD_eq_getElem?_getD, List.getElem?_append_left (by rw [opensL_len]; exact g), ← List.getD_eq_getElem?_getD]; exact h4⟩
      · have e : t = opn f n := by omega
        exact ⟨n, by omega, hn, e.symm, by rw [List.getD_eq_getElem?_getD, List.getElem?_append_right (by rw [opensL_len]; omega), opensL_len, e, Nat.sub_self]; rfl⟩
    · rw [opn_no hn] at h
      obtain ⟨p, h1, h2, h3, h4⟩ := opensL_at f n t h
      exact ⟨p, by omega, h2, h3, by rw [opensL_no hn]; exact h4⟩
/-- r is the node of the parent of the node that opens at p. -/
def ParR (f : Nat → Nat) (p : Nat) (r : Int) : Prop := (∃ e : Nat, Enc f e p ∧ (∀ x, e < x → x < p → ¬ Enc f x p) ∧ r = opn f e) ∨ ((∀ x, x < p → ¬ Enc f x p) ∧ r = -1)
theorem ParR.uniq {f : Nat → Nat} {p : Nat} {r r' : Int} (h : ParR f p r) (g : ParR f p r') : r = r' := by
  rcases h with ⟨e, h1, h2, h3⟩ | ⟨h1, h2⟩ <;> rcases g with ⟨e', g1, g2, g3⟩ | ⟨g1, g2⟩
  · rcases Nat.lt_trichotomy e e' with c | c | c
    · exact absurd g1 (h2 e' c g1.1)
    · rw [h3, g3, c]
    · exact absurd h1 (g2 e c h1.1)
  · exact absurd h1 (g1 e h1.1)
  · exact absurd g1 (h1 e' g1.1)
  · rw [h2, g2]
theorem ParR.of_enc {f : Nat → Nat} {p : Nat} {r c : Int} (h : EncOf f p r c) : (c = 0 ∧ ∃ e : Nat, r = e ∧ e < p ∧ f e = 40 ∧ ParR f p (opn f e)) ∨ (c = 7 ∧ ParR f p (-1)) := by
  rcases h with ⟨e, h1, h2, rfl, rfl⟩ | ⟨h1, rfl, rfl⟩
  · exact .inl ⟨rfl, e, rfl, h1.1, h1.2.1, .inl ⟨e, h1, h2, rfl⟩⟩
  · exact .inr ⟨rfl, .inr ⟨h1, rfl⟩⟩
theorem ParR.ex (f : Nat → Nat) (p : Nat) : ∃ r, ParR f p r := by
  obtain ⟨r, c, h⟩ := EncOf.ex f p
  rcases ParR.of_enc h with ⟨_, e, _, _, _, g⟩ | ⟨_, g⟩
  · exact ⟨_, g⟩
  · exact ⟨_, g⟩
theorem ParR.ge {f : Nat → Nat} {p : Nat} {r : Int} (h : ParR f p r) : -1 ≤ r ∧ r ≤ p := by
  rcases h with ⟨e, h1, _, h3⟩ | ⟨_, h2⟩
  · have := opn_le f e; have := h1.1; omega
  · omega
/-- The parents of all nodes ahead of place n. -/
def TreeR (f : Nat → Nat) (n : Nat) (l : List Int) : Prop := l.length = opn f n ∧ ∀ p, p < n → f p = 40 → ParR f p (l.getD (opn f p) 0)
theorem TreeR.ex (f : Nat → Nat) : ∀ n, ∃ l, TreeR f n l
  | 0 => ⟨[], rfl, fun p h => absurd h (by omega)⟩
  | n + 1 => by
    obtain ⟨l, h1, h2⟩ := TreeR.ex f n
    by_cases hn : f n = 40
    · obtain ⟨r, hr⟩ := ParR.ex f n
      refine ⟨l ++ [r], by rw [List.length_append, h1, opn_yes hn]; rfl, fun p hp ho => ?_⟩
      rcases Nat.lt_or_ge p n with g | g
      · rw [List.getD_eq_getElem?_getD, List.getElem?_append_left (by rw [h1]; exact opn_lt ho g), ← List.getD_eq_getElem?_getD]
        exact h2 p g ho
      · have e : p = n := by omega
        subst e
        rw [List.getD_eq_getElem?_getD, List.getElem?_append_right (by rw [h1]; exact Nat.le_refl _), h1, Nat.sub_self]
        exact hr
    · refine ⟨l, by rw [h1, opn_no hn], fun p hp ho => ?_⟩
      have : p ≠ n := fun e => hn (e ▸ ho)
      exact h2 p (by omega) ho
theorem TreeR.i64 {f : Nat → Nat} {n : Nat} {l : List Int} (h : TreeR f n l) (hn : n ≤ 400) : ∀ z ∈ l, I64 z := fun z hz => by
  obtain ⟨t, ht, rfl⟩ := List.mem_iff_getElem.1 hz
  obtain ⟨p, hp, ho, hq, _⟩ := opensL_at f n t (by rw [← h.1]; exact ht)
  have := (h.2 p hp ho).ge
  rw [hq, List.getD_eq_getElem?_getD, List.getElem?_eq_getElem ht] at this
  simp only [Option.getD_some] at this
  unfold I64; omega
/-- One more: the next node's parent. -/
theorem TreeR.take {f : Nat → Nat} {n i : Nat} {l : List Int} (h : TreeR f n l) (hi : i < n) (ho : f i = 40) {r : Int} (hr : ParR f i r) : l.take (opn f (i + 1)) = l.take (opn f i) ++ [r] := by
  have hlt : opn f i < l.length := by rw [h.1]; exact opn_lt ho hi
  have := (h.2 i hi ho).uniq hr
  rw [opn_yes ho, List.take_add_one, List.getElem?_eq_getElem hlt]
  rw [List.getD_eq_getElem?_getD, List.getElem?_eq_getElem hlt] at this
  simp only [Option.getD_some] at this
  rw [this]; rfl
theorem TreeR.at_ {f : Nat → Nat} {n p : Nat} {l : List Int} (h : TreeR f n l) (hp : p < n) (ho : f p = 40) {r : Int} (hr : ParR f p r) : l.take (opn f p + 1) = l.take (opn f p) ++ [r] := by
  rw [← opn_yes ho]; exact h.take hp ho hr
/-- The stack's top is the parent. -/
theorem Opens.par_nil {f : Nat → Nat} {i : Nat} (h : Opens f i []) (hd : ∀ j, j ≤ i → 0 ≤ dep f j) : ParR f i (-1) := .inr ⟨fun x hx g => by
  have a := h.1
  have b := g.2.2 i hx (Nat.le_refl _)
  have c := hd x (by omega)
  simp at a
  omega, rfl⟩
theorem Opens.par_top {f : Nat → Nat} {i k : Nat} {st : List Nat} (h : Opens f i (st ++ [k])) : ParR f i (opn f k) := by
  obtain ⟨h1, h2⟩ := h
  have ht := h2 st.length (by simp)
  rw [List.getElem_append_right (Nat.le_refl _)] at ht
  simp only [Nat.sub_self, List.getElem_cons_zero] at ht
  rw [List.length_append, List.length_singleton] at h1
  obtain ⟨a, b, c, e⟩ := ht
  refine .inl ⟨k, ⟨a, b, fun j g1 g2 => by rw [c]; exact e j g1 g2⟩, fun x g1 g2 g => ?_, rfl⟩
  have u := g.2.2 i g2 (Nat.le_refl _)
  have v := e x g1 (by omega)
  omega
attribute [irreducible] opn opensL ParR
/-- What Tree answers: the parents, and a code. -/
def TreeAns (s : ByteArray) (l : List Int) (c : Int) : Prop := (c = 0 ∧ s.size ≤ 400 ∧ Brackets (chr s) s.size ∧ TreeR (chr s) s.size l) ∨ (c ≠ 0 ∧ ParenC s c ∧ l = [])
theorem TreeAns.ex (s : ByteArray) : ∃ l c, TreeAns s l c := by
  obtain ⟨c, h⟩ := ParenC.ex s
  by_cases h0 : c = 0
  · subst h0
    obtain ⟨h1, h2⟩ := parenC_0 h
    obtain ⟨l, hl⟩ := TreeR.ex (chr s) s.size
    exact ⟨l, 0, .inl ⟨rfl, h1, h2, hl⟩⟩
  · exact ⟨[], c, .inr ⟨h0, h, rfl⟩⟩
end Go.Dam
