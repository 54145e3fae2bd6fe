/-
  The plain law of a stable sort, no program in sight: what a stable sort leaves is one list alone; and the words between a sorted array of tagged elements and that list. Conditions: none.
-/
import Derived.Test.YtjnndbllaplkcaaStableIns
namespace Go.Dam.Stable
open Go.Sort
set_option linter.unusedVariables false
variable {β : Type}
/-- Elements with the places that they had. -/
def tagL (l : List β) : List (Nat × β) := l.zipIdx.map fun p => (p.2, p.1)
theorem tagL_len (l : List β) : (tagL l).length = l.length := by simp [tagL]
theorem tagL_get (l : List β) (k : Nat) (h : k < l.length) : (tagL l)[k]? = some (k, l[k]) := by
  simp [tagL, List.getElem?_zipIdx, h]
theorem tagL_snd (l : List β) : (tagL l).map (·.2) = l := by
  unfold tagL
  rw [List.map_map]
  have : ((fun p : Nat × β => p.2) ∘ fun p : β × Nat => (p.2, p.1)) = Prod.fst := rfl
  rw [this, List.zipIdx_map_fst]
/-- Ahead by the order; or alike, and ahead by the place. -/
def TagT (lt : β → β → Bool) (x y : Nat × β) : Prop := lt x.2 y.2 = true ∨ (lt y.2 x.2 = false ∧ lt x.2 y.2 = false ∧ x.1 < y.1)
/-- A strict order by classes. -/
structure Weak (lt : β → β → Bool) : Prop where
  asym : ∀ x y, lt x y = true → lt y x = false
  tr : ∀ x y z, lt x y = true → lt y z = true → lt x z = true
  neg : ∀ x y z, lt x y = false → lt y z = false → lt x z = false
theorem TagT.tr {lt : β → β → Bool} (h : Weak lt) (x y z : Nat × β) (h1 : TagT lt x y) (h2 : TagT lt y z) : TagT lt x z := by
  rcases h1 with h1 | ⟨a1, a2, a3⟩
  · rcases h2 with h2 | ⟨b1, b2, b3⟩
    · exact .inl (h.tr _ _ _ h1 h2)
    · refine .inl ?_
      cases hx : lt x.2 z.2
      · have := h.neg _ _ _ hx b1
        rw [h1] at this; cases this
      · rfl
  · rcases h2 with h2 | ⟨b1, b2, b3⟩
    · refine .inl ?_
      cases hx : lt x.2 z.2
      · have := h.neg _ _ _ a1 hx
        rw [h2] at this; cases this
      · rfl
    · exact .inr ⟨h.neg _ _ _ b1 a1, h.neg _ _ _ a2 b2, by omega⟩
theorem TagT.asym {lt : β → β → Bool} (h : Weak lt) {x y : Nat × β} (h1 : TagT lt x y) : ¬ TagT lt y x := by
  rintro (h2 | ⟨b1, b2, b3⟩)
  · rcases h1 with h1 | ⟨a1, a2, a3⟩
    · have := h.asym _ _ h1; rw [h2] at this; cases this
    · rw [h2] at a1; cases a1
  · rcases h1 with h1 | ⟨a1, a2, a3⟩
    · rw [h1] at b1; cases b1
    · omega
/-- r is what a stable sort of l leaves. -/
def StabR (lt : β → β → Bool) (l r : List β) : Prop := ∃ m : List (Nat × β), m.Perm (tagL l) ∧ m.Pairwise (TagT lt) ∧ r = m.map (·.2)
theorem perm_sorted_uniq {α : Type} {T : α → α → Prop} (as : ∀ x y, T x y → ¬ T y x) : ∀ {l m : List α}, l.Perm m → l.Pairwise T → m.Pairwise T → l = m
  | [], m, h, _, _ => by rw [List.nil_perm.1 h]
  | x :: l, [], h, _, _ => by cases List.perm_nil.1 h
  | x :: l, y :: m, h, h1, h2 => by
    have hxy : x = y := by
      have m1 : x ∈ y :: m := h.mem_iff.1 (by simp)
      have m2 : y ∈ x :: l := h.mem_iff.2 (by simp)
      rcases List.mem_cons.1 m1 with e | e
      · exact e
      · rcases List.mem_cons.1 m2 with e2 | e2
        · exact e2.symm
        · exact absurd ((List.pairwise_cons.1 h2).1 x e) (as _ _ ((List.pairwise_cons.1 h1).1 y e2))
    subst hxy
    rw [perm_sorted_uniq as (List.perm_cons x |>.1 h) (List.pairwise_cons.1 h1).2 (List.pairwise_cons.1 h2).2]
theorem StabR.uniq {lt : β → β → Bool} (hw : Weak lt) {l r r' : List β} (h : StabR lt l r) (g : StabR lt l r') : r = r' := by
  obtain ⟨m, h1, h2, rfl⟩ := h
  obtain ⟨m', g1, g2, rfl⟩ := g
  rw [perm_sorted_uniq (fun _ _ => TagT.asym hw) (h1.trans g1.symm) h2 g2]
theorem StabR.len {lt : β → β → Bool} {l r : List β} (h : StabR lt l r) : r.length = l.length := by
  obtain ⟨m, h1, _, rfl⟩ := h
  rw [List.length_map, h1.length_eq, tagL_len]
theorem StabR.perm {lt : β → β → Bool} {l r : List β} (h : StabR lt l r) : r.Perm l := by
  obtain ⟨m, h1, _, rfl⟩ := h
  have := h1.map (·.2)
  rwa [tagL_snd] at this
section
variable [Inhabited β]
theorem tag_at {l : List β} {k : Nat} (h : k < l.length) : G (tagL l).toArray k = (k, l[k]) := by
  unfold G
  rw [getElem!_pos _ k (by simpa [tagL_len] using h)]
  have := tagL_get l k h
  rw [List.getElem?_eq_getElem (by rw [tagL_len]; exact h)] at this
  simpa using this
theorem tag_tst {lt : β → β → Bool} (hw : Weak lt) (l : List β) : Tst0 (TagT lt) (fun x y => lt x.2 y.2) (G (tagL l).toArray) 0 l.length := fun p q h1 h2 h3 => by
  rw [tag_at h3, tag_at (show p < l.length by omega)]
  refine ⟨fun h => .inl h, fun h => ?_⟩
  cases hx : lt l[p] l[q]
  · exact .inr ⟨h, hx, h2⟩
  · exact .inl hx
theorem stabR_of {lt : β → β → Bool} {l : List β} {d' : Array (Nat × β)} {n : Nat} (hn : n = l.length) (hp : PermIn 0 n (tagL l).toArray d') (hs : Srt (TagT lt) (G d') 0 n) : StabR lt l (d'.toList.map (·.2)) := by
  subst hn
  have hz : d'.size = l.length := by rw [hp.1]; simp [tagL_len]
  refine ⟨d'.toList, ?_, ?_, rfl⟩
  · have := hp.2.2
    rw [← hz, Array.extract_size, hz] at this
    have e : (tagL l).toArray.extract 0 l.length = (tagL l).toArray := by
      have : l.length = (tagL l).toArray.size := by simp [tagL_len]
      rw [this, Array.extract_size]
    rw [e] at this
    exact this
  · rw [List.pairwise_iff_getElem]
    intro i j hi hj hij
    have hi' : i < d'.size := by simpa using hi
    have hj' : j < d'.size := by simpa using hj
    have := hs i j (by omega) hij (by omega)
    unfold G at this
    rw [getElem!_pos d' i hi', getElem!_pos d' j hj'] at this
    simpa using this
end
end Go.Dam.Stable
