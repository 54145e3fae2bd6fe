/-
  Plain laws of the text of a tree, no program in sight: what is told from the end is well bracketed; and the answer of both. Conditions: none.
-/
import Derived.Test.YtlojecajonhmhaaMParenTexts12
set_option linter.unusedVariables false
set_option linter.unusedSimpArgs false
namespace Go.Dam
open Go
set_option linter.unusedVariables false
theorem dep_opn (f : Nat → Nat) : ∀ i : Nat, dep f i = 2 * (opn f i : Int) - i
  | 0 => by rw [dep_0, opn_0]; rfl
  | i + 1 => by
    have := dep_opn f i
    by_cases h : f i = 40
    · rw [dep_open h, opn_yes h]; omega
    · rw [dep_close h, opn_no h]; omega
theorem dep_congr {f g : Nat → Nat} : ∀ i : Nat, (∀ j, j < i → f j = g j) → dep f i = dep g i
  | 0, _ => by rw [dep_0, dep_0]
  | i + 1, h => by
    have ih := dep_congr i fun j hj => h j (by omega)
    have e := h i (by omega)
    by_cases h4 : f i = 40
    · rw [dep_open h4, dep_open (e ▸ h4), ih]
    · rw [dep_close h4, dep_close (fun x => h4 (e.trans x)), ih]
theorem dep_shift (f : Nat → Nat) (a : Nat) : ∀ j : Nat, dep f (a + j) = dep f a + dep (fun x => f (a + x)) j
  | 0 => by rw [dep_0]; simp
  | j + 1 => by
    have ih := dep_shift f a j
    by_cases h4 : f (a + j) = 40
    · rw [← Nat.add_assoc, dep_open h4, dep_open (f := fun x => f (a + x)) h4, ih]; omega
    · rw [← Nat.add_assoc, dep_close h4, dep_close (f := fun x => f (a + x)) h4, ih]; omega
theorem Brackets.congr {f g : Nat → Nat} {n : Nat} (h : Brackets f n) (e : ∀ j, j < n → f j = g j) : Brackets g n :=
  ⟨fun i hi => by rw [← e i hi]; exact h.1 i hi, fun i hi => by rw [← dep_congr i fun j hj => e j (by omega)]; exact h.2.1 i hi, by rw [← dep_congr n e]; exact h.2.2⟩
theorem Brackets.app {f : Nat → Nat} {a b : Nat} (h : Brackets f a) (g : Brackets (fun x => f (a + x)) b) : Brackets f (a + b) := by
  refine ⟨fun i hi => ?_, fun i hi => ?_, ?_⟩
  · rcases Nat.lt_or_ge i a with c | c
    · exact h.1 i c
    · have := g.1 (i - a) (by omega)
      simp only [show a + (i - a) = i from by omega] at this
      exact this
  · rcases Nat.lt_or_ge i a with c | c
    · exact h.2.1 i (by omega)
    · have := g.2.1 (i - a) (by omega)
      rw [show i = a + (i - a) from by omega, dep_shift, h.2.2]; omega
  · rw [dep_shift, h.2.2, g.2.2]; rfl
theorem Brackets.node {f : Nat → Nat} {n : Nat} (h0 : f 0 = 40) (h1 : f (1 + n) = 41) (g : Brackets (fun x => f (1 + x)) n) : Brackets f (n + 2) := by
  have d1 : dep f 1 = 1 := by have := dep_open h0; rw [dep_0] at this; simpa using this
  have dn : dep f (1 + n) = 1 := by rw [dep_shift, d1, g.2.2]; rfl
  have dn2 : dep f (n + 2) = 0 := by
    have := dep_close (f := f) (i := 1 + n) (by omega)
    rw [show 1 + n + 1 = n + 2 from by omega, dn] at this
    omega
  refine ⟨fun i hi => ?_, fun i hi => ?_, dn2⟩
  · rcases Nat.lt_trichotomy i 0 with c | c | c
    · omega
    · exact .inl (c ▸ h0)
    · rcases Nat.lt_or_ge i (1 + n) with d | d
      · have := g.1 (i - 1) (by omega)
        simp only [show 1 + (i - 1) = i from by omega] at this
        exact this
      · rw [show i = 1 + n from by omega]; exact .inr h1
  · rcases Nat.lt_trichotomy i 0 with c | c | c
    · omega
    · rw [c, dep_0]; exact Int.le_refl _
    · rcases Nat.lt_or_ge i (n + 2) with d | d
      · have := g.2.1 (i - 1) (by omega)
        rw [show i = 1 + (i - 1) from by omega, dep_shift, d1]; omega
      · rw [show i = n + 2 from by omega, dn2]; exact Int.le_refl _
/-- The bytes of a list as places. -/
def fL (t : List UInt8) : Nat → Nat := fun j => (t.getD j 0).toNat
theorem fL_left {a b : List UInt8} {j : Nat} (h : j < a.length) : fL (a ++ b) j = fL a j := by
  unfold fL; rw [List.getD_eq_getElem?_getD, List.getElem?_append_left h, ← List.getD_eq_getElem?_getD]
theorem fL_right (a b : List UInt8) (j : Nat) : fL (a ++ b) (a.length + j) = fL b j := by
  unfold fL; rw [List.getD_eq_getElem?_getD, List.getElem?_append_right (by omega), Nat.add_sub_cancel_left, ← List.getD_eq_getElem?_getD]
/-- Well bracketed. -/
def Bal (t : List UInt8) : Prop := Brackets (fL t) t.length
theorem Bal.nil : Bal [] := ⟨fun i h => absurd h (by simp), fun i h => by rw [show i = 0 from by simpa using h, dep_0]; exact Int.le_refl _, by rw [List.length_nil, dep_0]⟩
theorem Bal.app {a b : List UInt8} (ha : Bal a) (hb : Bal b) : Bal (a ++ b) := by
  unfold Bal
  rw [List.length_append]
  exact Brackets.app (ha.congr fun j hj => (fL_left hj).symm) (hb.congr fun j hj => (fL_right a b j).symm)
theorem nodeL_len (t : List UInt8) : (nodeL t).length = t.length + 2 := by simp [nodeL]
theorem Bal.node {t : List UInt8} (h : Bal t) : Bal (nodeL t) := by
  unfold Bal
  rw [nodeL_len]
  refine Brackets.node rfl ?_ (h.congr fun j hj => ?_)
  · have := fL_right (40 :: t) [41] 0
    rw [List.length_cons, Nat.add_zero, Nat.add_comm] at this
    exact this
  · have := fL_left (a := 40 :: t) (b := [41]) (j := 1 + j) (by rw [List.length_cons]; omega)
    refine (this.trans ?_).symm
    rw [Nat.add_comm]; rfl
/-- How long all that is held is. -/
def sumL (own : Nat → List UInt8) : Nat → Nat
  | 0 => 0
  | i + 1 => sumL own i + (own i).length
theorem sumL_ne {own : Nat → List UInt8} {p : Nat} {v : List UInt8} : ∀ i, i ≤ p → sumL (updL own p v) i = sumL own i
  | 0, _ => rfl
  | i + 1, h => by rw [sumL, sumL, sumL_ne i (by omega), updL_ne (by omega)]
theorem sumL_upd {own : Nat → List UInt8} {p : Nat} {v : List UInt8} : ∀ i, p < i → sumL (updL own p v) i + (own p).length = sumL own i + v.length
  | 0, h => by omega
  | i + 1, h => by
    rcases Nat.lt_or_ge p i with c | c
    · have := sumL_upd (own := own) (v := v) i c
      rw [sumL, sumL, updL_ne (by omega)]; omega
    · obtain rfl : i = p := by omega
      rw [sumL, sumL, sumL_ne _ (Nat.le_refl _), updL_same]; omega
/-- What is told from the end. -/
theorem refL_ok : ∀ (ps : List Int) (i : Nat) (own : Nat → List UInt8) (out : List UInt8), refL ps i = some (own, out) → Bal out ∧ (∀ a, Bal (own a)) ∧ out.length + sumL own i = 2 * ps.length
  | [], i, own, out, h => by
    cases h
    have : ∀ i, sumL (fun _ => []) i = 0 := fun i => by
      induction i with
      | zero => rfl
      | succ i ih => rw [sumL, ih]; rfl
    exact ⟨Bal.nil, fun _ => Bal.nil, by rw [this]; rfl⟩
  | p :: ps, i, own, out, h => by
    cases h1 : refL ps (i + 1) with
    | none => rw [refL_none h1] at h; exact absurd h (by simp)
    | some x =>
      obtain ⟨own', out'⟩ := x
      obtain ⟨g1, g2, g3⟩ := refL_ok ps (i + 1) own' out' h1
      rw [refL_next h1] at h
      rw [sumL] at g3
      split at h
      · exact absurd h (by simp)
      · rename_i hr
        split at h
        · cases h
          refine ⟨(g2 i).node.app g1, g2, ?_⟩
          rw [List.length_append, nodeL_len, List.length_cons]; omega
        · rename_i hp
          cases h
          refine ⟨g1, fun a => ?_, ?_⟩
          · by_cases ha : a = p.toNat
            · rw [ha, updL_same]; exact (g2 i).node.app (g2 _)
            · rw [updL_ne ha]; exact g2 a
          · have := sumL_upd (own := own') (p := p.toNat) (v := nodeL (own' i) ++ own' p.toNat) i (by omega)
            rw [List.length_append, nodeL_len] at this
            rw [List.length_cons]; omega
/-- A refusal on the way is a refusal. -/
theorem refL_refuse : ∀ (ps : List Int) (s i : Nat), refL (ps.drop i) (s + i) = none → refL ps s = none
  | ps, s, 0, h => h
  | [], s, i + 1, h => by rw [List.drop_nil] at h; exact absurd h (by simp [refL])
  | p :: ps, s, i + 1, h => refL_none (refL_refuse ps (s + 1) i (by rw [show s + 1 + i = s + (i + 1) from by omega]; exact h))
theorem run_none {ps : List Int} (h : refL ps 0 = none) : runL ps 0 [] = none := by
  cases hr : runL ps 0 [] with
  | none => rfl
  | some t =>
    obtain ⟨own, out, e, _, _⟩ := run_ref ps 0 [] t hr (by simp) (by simp)
    rw [h] at e; exact absurd e (by simp)
theorem TreeR.uniq {f : Nat → Nat} {n : Nat} {l l' : List Int} (h : TreeR f n l) (g : TreeR f n l') : l = l' := by
  refine List.ext_getElem (h.1.trans g.1.symm) fun t h1 h2 => ?_
  obtain ⟨p, hp, ho, hq, _⟩ := opensL_at f n t (by rw [← h.1]; exact h1)
  have := (h.2 p hp ho).uniq (g.2 p hp ho)
  rw [hq, List.getD_eq_getElem?_getD, List.getElem?_eq_getElem h1, List.getD_eq_getElem?_getD, List.getElem?_eq_getElem h2] at this
  simpa using this
theorem ref_same {ps : List Int} {own : Nat → List UInt8} {out : List UInt8} (h : refL ps 0 = some (own, out)) (hT : TreeR (fL out) out.length ps) : runL ps 0 [] = some out := by
  have := tree_run (fL out) out.length ps (refL_ok ps 0 own out h).1 hT out rfl (fun _ _ => rfl) out.length 0 [] [] (by omega) (Opens.nil _)
  rw [opn_0] at this
  simpa using this
theorem ref_other {ps l : List Int} {own : Nat → List UInt8} {out : List UInt8} (h : refL ps 0 = some (own, out)) (hT : TreeR (fL out) out.length l) (hne : l ≠ ps) : runL ps 0 [] = none := by
  cases hr : runL ps 0 [] with
  | none => rfl
  | some t =>
    exfalso
    obtain ⟨own', out', e, e2, _⟩ := run_ref ps 0 [] t hr (by simp) (by simp)
    rw [h] at e
    cases e
    replace e2 : t = out := e2
    subst e2
    obtain ⟨_, _, m3, m4⟩ := run_tree (fL t) ps 0 [] t 0 [] hr (fun j _ => by rw [Nat.zero_add]; rfl) (Fine.nil _) (Opens.nil _) rfl (opn_0 _)
    refine hne (hT.uniq ⟨?_, fun p hp ho => ?_⟩)
    · rw [Nat.zero_add, Nat.zero_add] at m3; exact m3.symm
    · have := m4 p (by omega) (by omega) ho
      rw [Nat.sub_zero] at this; exact this
/-- What both answer. -/
def TextAns (ps : List Int) (t : List UInt8) (c : Int) : Prop := (200 < ps.length ∧ c = 1 ∧ t = []) ∨ (ps.length ≤ 200 ∧ runL ps 0 [] = none ∧ c = 4 ∧ t = []) ∨ (ps.length ≤ 200 ∧ runL ps 0 [] = some t ∧ c = 0)
theorem TextAns.ex (ps : List Int) : ∃ t c, TextAns ps t c := by
  by_cases h : 200 < ps.length
  · exact ⟨[], 1, .inl ⟨h, rfl, rfl⟩⟩
  · cases hr : runL ps 0 [] with
    | none => exact ⟨[], 4, .inr (.inl ⟨by omega, hr, rfl, rfl⟩)⟩
    | some t => exact ⟨t, 0, .inr (.inr ⟨by omega, hr, rfl⟩)⟩
theorem fL_chr (t : List UInt8) : chr ⟨t.toArray⟩ = fL t := by funext j; unfold chr fL; rfl
theorem run_len {ps : List Int} {t : List UInt8} (h : runL ps 0 [] = some t) : t.length = 2 * ps.length := by
  obtain ⟨own', out', e, e2, _⟩ := run_ref ps 0 [] t h (by simp) (by simp)
  replace e2 : t = out' := e2
  subst e2
  have := (refL_ok ps 0 own' t e).2.2
  exact this
end Go.Dam
