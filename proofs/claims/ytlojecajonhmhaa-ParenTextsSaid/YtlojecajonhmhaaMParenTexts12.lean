/-
  Plain laws of the text of a tree, no program in sight: the tree of a text that was told is the tree that it was told of, and a text is told again of its own tree. Conditions: none.
-/
import Derived.Test.YtlojecajonhmhaaMParenTexts11
set_option linter.unusedVariables false
set_option linter.unusedSimpArgs false
namespace Go.Dam
open Go
set_option linter.unusedVariables false
theorem Opens.fine_close {f : Nat → Nat} {i k : Nat} {st : List Nat} (h : Opens f i (st ++ [k])) (hf : Fine f i) (hc : f i = 41) : Fine f (i + 1) :=
  hf.next (.inr hc) (by have := h.1; rw [List.length_append, List.length_singleton] at this; rw [dep_close (by omega)]; omega)
theorem Opens.fine_open {f : Nat → Nat} {i : Nat} (hf : Fine f i) (hc : f i = 40) : Fine f (i + 1) :=
  hf.next (.inl hc) (by have := hf.2 i (Nat.le_refl _); rw [dep_open hc]; omega)
/-- A run of closing brackets. -/
theorem Opens.pops {f : Nat → Nat} (st : List Nat) : ∀ (n : Nat) (a : Nat) (r : List Nat), r.length = n → Opens f a (st ++ r) → Fine f a → (∀ j, j < n → f (a + j) = 41) → Opens f (a + n) st ∧ Fine f (a + n) ∧ opn f (a + n) = opn f a
  | 0, a, r, hr, h, hf, _ => by
    obtain rfl : r = [] := List.eq_nil_of_length_eq_zero hr
    rw [List.append_nil] at h
    exact ⟨h, hf, rfl⟩
  | n + 1, a, r, hr, h, hf, hc => by
    rcases snoc_cases r with rfl | ⟨r', k, rfl⟩
    · simp at hr
    rw [← List.append_assoc] at h
    have c0 : f a = 41 := hc 0 (by omega)
    have g := Opens.pops st n (a + 1) r' (by simp at hr; omega) (h.pop (by omega)).2 (h.fine_close hf c0) (fun j hj => by rw [show a + 1 + j = a + (j + 1) from by omega]; exact hc (j + 1) (by omega))
    rw [show a + 1 + n = a + (n + 1) from by omega, opn_no (by omega : f a ≠ 40)] at g
    exact g
theorem getD_rep (n : Nat) (t : List UInt8) {j : Nat} (h : j < n) : (List.replicate n (41 : UInt8) ++ t).getD j 0 = 41 := by
  rw [List.getD_eq_getElem?_getD, List.getElem?_append_left (by simpa using h), List.getElem?_replicate, if_pos h]; rfl
theorem getD_behind (n : Nat) (x : UInt8) (t : List UInt8) (j : Nat) : (List.replicate n (41 : UInt8) ++ x :: t).getD (n + j) 0 = (x :: t).getD j 0 := by
  rw [List.getD_eq_getElem?_getD, List.getElem?_append_right (by simp), List.length_replicate, Nat.add_sub_cancel_left, ← List.getD_eq_getElem?_getD]
/-- The tree of a text that was told. -/
theorem run_tree (f : Nat → Nat) : ∀ (ps : List Int) (i : Nat) (op : List Nat) (t : List UInt8) (a : Nat) (st : List Nat), runL ps i op = some t → (∀ j, j < t.length → f (a + j) = (t.getD j 0).toNat) →
    Fine f a → Opens f a st → op = st.map (opn f) → opn f a = i →
    Fine f (a + t.length) ∧ dep f (a + t.length) = 0 ∧ opn f (a + t.length) = i + ps.length ∧ ∀ p, a ≤ p → p < a + t.length → f p = 40 → ParR f p (ps.getD (opn f p - i) 0)
  | [], i, op, t, a, st, h, ht, hf, ho, hop, hi => by
    rw [runL_nil] at h
    cases h
    have hl : st.length = op.length := by rw [hop, List.length_map]
    have c : ∀ j, j < op.length → f (a + j) = 41 := fun j hj => by
      rw [ht j (by simpa using hj)]
      have := getD_rep op.length [] hj
      rw [List.append_nil] at this
      rw [this]; rfl
    obtain ⟨g1, g2, g3⟩ := Opens.pops (f := f) [] op.length a st hl (by simpa using ho) hf c
    rw [List.length_replicate]
    refine ⟨g2, by have := g1.1; simp at this; omega, by rw [g3, hi]; rfl, fun p h1 h2 h3 => ?_⟩
    have := c (p - a) (by omega)
    rw [show a + (p - a) = p from by omega] at this
    omega
  | p :: ps, i, op, t, a, st, h, ht, hf, ho, hop, hi => by
    obtain ⟨k, r, t', hc, h1, rfl⟩ := runL_some h
    obtain ⟨e, hk⟩ := cutL_some hc
    rw [hop] at e
    obtain ⟨sk, sr, rfl, ek, er⟩ := List.map_eq_append_iff.1 e
    have hl : sr.length = r.length := by rw [← er, List.length_map]
    have c : ∀ j, j < r.length → f (a + j) = 41 := fun j hj => by
      rw [ht j (by simp; omega), getD_rep r.length _ hj]; rfl
    obtain ⟨g1, g2, g3⟩ := Opens.pops sk r.length a sr hl ho hf c
    have c40 : f (a + r.length) = 40 := by
      rw [ht r.length (by simp)]
      have := getD_behind r.length 40 t' 0
      rw [Nat.add_zero] at this
      rw [this]; rfl
    have hpar : ParR f (a + r.length) p := by
      rcases hk with ⟨rfl, rfl⟩ | ⟨_, q, b, rfl, rfl, _⟩
      · have : sk = [] := by simpa using ek
        subst this
        exact g1.par_nil fun j hj => g2.2 j hj
      · obtain ⟨s1, s2, rfl, e1, e2⟩ := List.map_eq_append_iff.1 ek
        obtain ⟨b', rfl, e3⟩ : ∃ b', s2 = [b'] ∧ opn f b' = b := by
          match s2, e2 with
          | [b'], e2 => exact ⟨b', rfl, by simpa using e2⟩
        rw [← e3]; exact g1.par_top
    obtain ⟨m1, m2, m3, m4⟩ := run_tree f ps (i + 1) (k ++ [i]) t' (a + r.length + 1) (sk ++ [a + r.length]) h1 (fun j hj => by
      rw [show a + r.length + 1 + j = a + (r.length + (j + 1)) from by omega, ht (r.length + (j + 1)) (by simp; omega), getD_behind]; rfl)
      (Opens.fine_open g2 c40) (g1.push c40) (by rw [List.map_append, ek, ← hi, ← g3]; rfl) (by rw [opn_yes c40, g3, hi])
    have hlen : (List.replicate r.length (41 : UInt8) ++ 40 :: t').length = r.length + 1 + t'.length := by simp; omega
    rw [hlen, show a + (r.length + 1 + t'.length) = a + r.length + 1 + t'.length from by omega]
    refine ⟨m1, m2, by rw [m3, List.length_cons]; omega, fun x h2 h3 h4 => ?_⟩
    rcases Nat.lt_trichotomy x (a + r.length) with g | g | g
    · have := c (x - a) (by omega)
      rw [show a + (x - a) = x from by omega] at this
      omega
    · subst g
      rw [g3, hi, Nat.sub_self]; exact hpar
    · have := m4 x (by omega) h3 h4
      have hm := opn_mono f (a + r.length + 1) (x - (a + r.length + 1))
      rw [show a + r.length + 1 + (x - (a + r.length + 1)) = x from by omega, opn_yes c40, g3, hi] at hm
      rw [show opn f x - i = (opn f x - (i + 1)) + 1 from by omega]
      exact this
theorem Opens.nodes_notin {f : Nat → Nat} {i k : Nat} {st : List Nat} (h : Opens f i (st ++ [k])) : opn f k ∉ st.map (opn f) := by
  intro hx
  obtain ⟨y, hy, e⟩ := List.mem_map.1 hx
  have h1 := h.mem (List.mem_append_left _ hy)
  have h2 := h.mem (k := k) (by simp)
  rcases Nat.lt_trichotomy y k with g | g | g
  · have := opn_lt h1.2 g; omega
  · exact h.top_notin (g ▸ hy)
  · have := opn_lt h2.2 g; omega
/-- A text is told again of its own tree. -/
theorem tree_run (f : Nat → Nat) (n : Nat) (l : List Int) (hb : Brackets f n) (hT : TreeR f n l) (t : List UInt8) (htl : t.length = n) (hte : ∀ j, j < n → f j = (t.getD j 0).toNat) : ∀ (d a : Nat) (st pend : List Nat), a + d = n → Opens f a st →
    runL (l.drop (opn f a)) (opn f a) (st.map (opn f) ++ pend) = some (List.replicate pend.length 41 ++ t.drop a)
  | 0, a, st, pend, ha, ho => by
    obtain rfl : a = n := by omega
    have h0 := ho.1
    rw [hb.2.2] at h0
    obtain rfl : st = [] := List.eq_nil_of_length_eq_zero (by omega)
    rw [← hT.1, List.drop_length, runL_nil, ← htl, List.drop_length, List.append_nil]; rfl
  | d + 1, a, st, pend, ha, ho => by
    have hlt : a < t.length := by omega
    have hd : t.drop a = t.getD a 0 :: t.drop (a + 1) := by
      rw [List.drop_eq_getElem_cons hlt, List.getD_eq_getElem?_getD, List.getElem?_eq_getElem hlt]; rfl
    have hfa := hte a (by omega)
    rcases hb.1 a (by omega) with h40 | h41
    · have hch : t.getD a 0 = 40 := UInt8.toNat_inj.1 (by rw [← hfa, h40]; rfl)
      obtain ⟨r, hr⟩ := ParR.ex f a
      have hll : opn f a < l.length := by rw [hT.1]; exact opn_lt h40 (by omega)
      have hr2 : l[opn f a] = r := by
        have := (hT.2 a (by omega) h40).uniq hr
        rw [List.getD_eq_getElem?_getD, List.getElem?_eq_getElem hll] at this
        simpa using this
      have hcut : cutL (st.map (opn f) ++ pend) r = some (st.map (opn f), pend) := by
        rcases snoc_cases st with rfl | ⟨st', k, rfl⟩
        · rw [hr.uniq (ho.par_nil fun j hj => hb.2.1 j (by omega)), cutL_neg]; rfl
        · rw [hr.uniq ho.par_top]
          have := cutL_hit (opn f k) pend (st'.map (opn f)) ho.nodes_notin
          rw [List.map_append]
          exact this
      have ih := tree_run f n l hb hT t htl hte d (a + 1) (st ++ [a]) [] (by omega) (ho.push h40)
      rw [List.drop_eq_getElem_cons hll, hr2, runL_go hcut, ← opn_yes h40]
      rw [List.append_nil, List.map_append] at ih
      rw [show [opn f a] = [a].map (opn f) from rfl, ih, hd, hch]; rfl
    · have hch : t.getD a 0 = 41 := UInt8.toNat_inj.1 (by rw [← hfa, h41]; rfl)
      rcases snoc_cases st with rfl | ⟨st', k, rfl⟩
      · exfalso
        have h1 := hb.2.1 (a + 1) (by omega)
        rw [dep_close (by omega)] at h1
        have h2 := ho.1
        simp at h2; omega
      · have ih := tree_run f n l hb hT t htl hte d (a + 1) st' (opn f k :: pend) (by omega) (ho.pop (by omega)).2
        rw [opn_no (by omega : f a ≠ 40)] at ih
        rw [List.map_append, List.append_assoc]
        show runL _ _ (st'.map (opn f) ++ (opn f k :: pend)) = _
        rw [ih, hd, hch, List.length_cons, List.replicate_succ', List.append_assoc]; rfl
end Go.Dam
